/- Texts of this seat, one behind the other. -/
import Derived.RangeFuncNested
import Derived.RangeFuncBox
import Derived.RangeFuncBound
import Derived.RangeFuncCalls
import Derived.RangeFuncLeaves
import Derived.Shelf.Abstract
import Derived.Shelf.RegionOpen
import Derived.OwnWalkIn
import Derived.TacticsInMore
import Derived.LoopNIn
import Derived.LoopIn
import Derived.OrdersIn
import Derived.TacticsIn
import Derived.Maps.OwnOps
import Derived.Maps.OwnIn
import Derived.Maps.Views
import Derived.Maps.AppendAt
import Derived.Test.YtbddfnmhhmkfkaaXBestWider1
import Derived.Test.YtbddfnmhhmkfkaaXBestWider2
/- What the functions of package best, and the document's, come to: plain laws over rows of items; no memory in sight. -/
namespace Go.Proofs.Ytbddfnmhhmkfkaa.Pr
set_option linter.unusedVariables false
set_option linter.unusedSimpArgs false
open Go.RowKit Go.Proofs.YtbddfnmhhmkfkaaW.PrintWords Go.Proofs.YtbddfnmhhmkfkaaW.PrintLast Go.Proofs.YtbddfnmhhmkfkaaW.PrintMore
/-! ### the items, and what is summed of them -/
theorem w64 {n : Int} (h0 : -9223372036854775808 ≤ n) (h1 : n ≤ 9223372036854775807) : wrap64 n = n := by unfold wrap64; omega
structure OkItem (x : S43) : Prop where
  k1 : 1 ≤ x.f0
  k4 : x.f0 ≤ 4
  w0 : 0 ≤ x.f1
  w1 : x.f1 ≤ 2000
  y0 : 0 ≤ x.f2
  y1 : x.f2 ≤ 2000
  z0 : 0 ≤ x.f3
  z1 : x.f3 ≤ 2000
theorem odd_ok {x : S43} (h : oddP x = false) : OkItem x := by
  simp only [oddP, farP, Bool.or_eq_false_iff, decide_eq_false_iff_not] at h
  obtain ⟨⟨⟨⟨h1, h2⟩, h3, h4⟩, h5, h6⟩, h7, h8⟩ := h
  exact ⟨by omega, by omega, by omega, by omega, by omega, by omega, by omega, by omega⟩
/-- items that may be -/
structure OkL (l : List S43) (w : Int) : Prop where
  len : l.length ≤ 16384
  item : ∀ x ∈ l, OkItem x
  w0 : 1 ≤ w
  w1 : w ≤ 1000000
theorem check_01 (l : List S43) (w : Int) : checkP l w = 0 ∨ checkP l w = 1 := by
  unfold checkP; split <;> simp
theorem check_ok {l : List S43} {w : Int} (h : checkP l w = 0) : OkL l w := by
  unfold checkP at h
  split at h
  · cases h
  · rename_i h1
    refine ⟨by omega, fun x hx => odd_ok ?_, by omega, by omega⟩
    cases ho : oddP x with
    | false => rfl
    | true => exact absurd (.inr (.inr (.inr (List.any_eq_true.2 ⟨x, hx, ho⟩)))) h1
def gN (x : S43) : Int := if x.f0 = 3 then 0 else x.f1
def gY (x : S43) : Int := if x.f0 = 2 then x.f2 else 0
def gZ (x : S43) : Int := if x.f0 = 2 then x.f3 else 0
/-- what the items ahead of a place come to -/
def nS (g : S43 → Int) (l : List S43) (k : Nat) : Int := ((l.take k).map g).sum
theorem nS_succ (g : S43 → Int) (l : List S43) (k : Nat) (x : S43) (h : l[k]? = some x) : nS g l (k + 1) = nS g l k + g x := by
  unfold nS
  rw [List.take_add_one, h]
  simp
theorem rd_get {l : List S43} {k : Nat} (h : k < l.length) : l[k]? = some (rd_T43 l k) := by
  unfold rd_T43
  rw [Int.toNat_natCast, List.getD_eq_getElem?_getD, List.getElem?_eq_getElem h]
  rfl
theorem rd_ok {l : List S43} {w : Int} (ok : OkL l w) {k : Nat} (h : k < l.length) : OkItem (rd_T43 l k) := ok.item _ (List.mem_of_getElem? (rd_get h))
theorem nS_next {l : List S43} (g : S43 → Int) {k : Nat} (h : k < l.length) : nS g l (k + 1) = nS g l k + g (rd_T43 l k) := nS_succ g l k _ (rd_get h)
theorem g_bd {x : S43} (h : OkItem x) : (0 ≤ gN x ∧ gN x ≤ 2000) ∧ (0 ≤ gY x ∧ gY x ≤ 2000) ∧ (0 ≤ gZ x ∧ gZ x ≤ 2000) := by
  obtain ⟨a, b, c, d, e, f, g, i⟩ := h
  refine ⟨?_, ?_, ?_⟩
  · unfold gN; split <;> omega
  · unfold gY; split <;> omega
  · unfold gZ; split <;> omega
theorem nS_bd {l : List S43} {w : Int} (ok : OkL l w) (g : S43 → Int) (hg : ∀ x, OkItem x → 0 ≤ g x ∧ g x ≤ 2000) : ∀ k : Nat, k ≤ l.length → 0 ≤ nS g l k ∧ nS g l k ≤ 2000 * k
  | 0, _ => by simp [nS]
  | k + 1, h => by
    have ih := nS_bd ok g hg k (by omega)
    have := hg _ (rd_ok ok (show k < l.length by omega))
    rw [nS_next g (by omega)]
    omega
theorem nS_mono {l : List S43} {w : Int} (ok : OkL l w) (g : S43 → Int) (hg : ∀ x, OkItem x → 0 ≤ g x ∧ g x ≤ 2000) (i : Nat) : ∀ d : Nat, i + d ≤ l.length → nS g l i ≤ nS g l (i + d)
  | 0, _ => Int.le_refl _
  | d + 1, h => by
    have ih := nS_mono ok g hg i d (by omega)
    have := hg _ (rd_ok ok (show i + d < l.length by omega))
    rw [show i + (d + 1) = (i + d) + 1 by omega, nS_next g (by omega)]
    omega
theorem sumAt_ok {l : List S43} {w : Int} (ok : OkL l w) : ∀ k : Nat, k ≤ l.length → sumAt l k = ⟨nS gN l k, nS gY l k, nS gZ l k⟩
  | 0, _ => rfl
  | k + 1, h => by
    have hk : k < l.length := by omega
    have ho := rd_ok ok hk
    obtain ⟨b1, b2, b3⟩ := g_bd ho
    have n1 := nS_bd ok gN (fun x hx => (g_bd hx).1) k (by omega)
    have n2 := nS_bd ok gY (fun x hx => (g_bd hx).2.1) k (by omega)
    have n3 := nS_bd ok gZ (fun x hx => (g_bd hx).2.2) k (by omega)
    have hl := ok.len
    rw [sumAt_succ l k _ (rd_get hk), sumAt_ok ok k (by omega), nS_next gN hk, nS_next gY hk, nS_next gZ hk]
    generalize rd_T43 l k = x at *
    obtain ⟨o1, o2, o3, o4, o5, o6, o7, o8⟩ := ho
    generalize nS gN l k = a1 at *
    generalize nS gY l k = a2 at *
    generalize nS gZ l k = a3 at *
    simp only [sumP, gN, gY, gZ] at *
    by_cases h2 : x.f0 = 2
    · simp only [h2, if_true] at *
      rw [if_neg (by omega)]
      rw [w64 (by omega) (by omega), w64 (by omega) (by omega), w64 (by omega) (by omega)]
    · by_cases h3 : x.f0 = 3
      · simp only [h3, if_true] at *
        simp
      · rw [if_neg h2, if_pos (by omega), if_neg h3, if_neg h2, if_neg h2, w64 (by omega) (by omega), Int.add_zero, Int.add_zero]
theorem sums_len (l : List S43) (k : Nat) : (sumsTo l k).length = k + 1 := by simp [sumsTo]
theorem rd_sums (l : List S43) (n k : Nat) (h : k ≤ n) : rd_T85 (sumsTo l n) k = sumAt l k := by
  unfold rd_T85 sumsTo
  rw [Int.toNat_natCast, List.getD_eq_getElem?_getD, List.getElem?_map, List.getElem?_range (by omega)]
  rfl
/-! ### places -/
def hyphP (l : List S43) (a : Int) : Bool := decide (0 ≤ a) && decide (a < l.length) && ((rd_T43 l a).f0 == 3)
def placeP (l : List S43) (a : Int) : Bool := decide (a = l.length) || (decide (0 ≤ a) && decide (a < l.length) && (((rd_T43 l a).f0 == 3) || ((rd_T43 l a).f0 == 2)))
def legalP (l : List S43) (a b : Int) : Bool := !hyphP l a || !hyphP l b
theorem hyphen_f (l : List S43) (w : Int) (s : List S85) (a : Int) : best_flow_hyphen.f l w s a = some (hyphP l a) := by
  unfold best_flow_hyphen.f hyphP
  by_cases h1 : 0 ≤ a
  · by_cases h2 : a < l.length
    · simp [h1, h2]
    · simp [h1, h2]
  · simp [h1]
theorem place_f (l : List S43) (w : Int) (s : List S85) (a : Int) : best_flow_place.f l w s a = some (placeP l a) := by
  unfold best_flow_place.f placeP
  rw [hyphen_f]
  unfold hyphP
  by_cases h0 : a = l.length
  · simp [h0]
  · by_cases h1 : 0 ≤ a
    · by_cases h2 : a < l.length
      · by_cases h3 : (rd_T43 l a).f0 = 3
        · simp [h0, h1, h2, h3]
        · simp [h0, h1, h2, h3]
      · simp [h0, h1, h2]
    · simp [h0, h1]
theorem legal_f (l : List S43) (w : Int) (s : List S85) (a b : Int) : best_flow_legal.f l w s a b = some (legalP l a b) := by
  unfold best_flow_legal.f legalP
  rw [hyphen_f, hyphen_f]
  cases hyphP l a <;> cases hyphP l b <;> rfl
theorem refHyphen_f (l : List S43) (a : Int) : stylusref19_Hyphen.f l a = some (hyphP l a) := by
  unfold stylusref19_Hyphen.f hyphP
  by_cases h1 : 0 ≤ a
  · by_cases h2 : a < l.length
    · simp [h1, h2]
    · simp [h1, h2]
  · simp [h1]
theorem refPlace_f (l : List S43) (a : Int) : stylusref19_Place.f l a = some (placeP l a) := by
  unfold stylusref19_Place.f placeP
  by_cases h0 : a = l.length
  · simp [h0]
  · by_cases h1 : 0 ≤ a
    · by_cases h2 : a < l.length
      · by_cases h3 : (rd_T43 l a).f0 = 2
        · simp [h0, h1, h2, h3]
        · simp [h0, h1, h2, h3]
      · simp [h0, h1, h2]
    · simp [h0, h1]
theorem place_le {l : List S43} {a : Int} (h : placeP l a = true) : 0 ≤ a ∧ a ≤ l.length := by
  simp only [placeP, Bool.or_eq_true, Bool.and_eq_true, decide_eq_true_eq] at h
  omega
theorem hyph_len (l : List S43) : hyphP l l.length = false := by simp [hyphP]
theorem hyph_neg (l : List S43) {a : Int} (h : a < 0) : hyphP l a = false := by
  have : ¬ 0 ≤ a := by omega
  simp [hyphP, this]
theorem legal_neg (l : List S43) (b : Int) : legalP l (-1) b = true := by unfold legalP; rw [hyph_neg l (by omega)]; rfl
/-! ### a line -/
def lineN (l : List S43) (f t : Int) : Int := nS gN l t.toNat - nS gN l (f + 1).toNat + if hyphP l t = true then (rd_T43 l t).f1 else 0
def lineY (l : List S43) (f t : Int) : Int := nS gY l t.toNat - nS gY l (f + 1).toNat
def lineZ (l : List S43) (f t : Int) : Int := nS gZ l t.toNat - nS gZ l (f + 1).toNat
def quo (a b : Int) : Int := if b = 0 then 1024 else mn (a * 128 / b) 1024
def rateOf (w n y z : Int) (last : Bool) : Int := if n = w ∨ n < w ∧ last = true then 0 else if n < w then quo (w - n) y else quo (n - w) z
def rateP (l : List S43) (w f t : Int) : Int := rateOf w (lineN l f t) (lineY l f t) (lineZ l f t) (t == (l.length : Int))
def overP (l : List S43) (w f t : Int) : Bool := decide (lineN l f t - lineZ l f t > w)
def costOf (r : Int) (h o : Bool) : Int := (10 + mn (100 * r * r * r / 2097152) 10000) * (10 + mn (100 * r * r * r / 2097152) 10000) + (if h = true then 2500 else 0) + if o = true then 1000000000000 else 0
def costP (l : List S43) (w f t : Int) : Int := costOf (rateP l w f t) (hyphP l t) (overP l w f t)
theorem mn_le (a b : Int) : mn a b ≤ a ∧ mn a b ≤ b := by unfold mn; split <;> omega
theorem mn_ge {a b c : Int} (h : c ≤ a) (h' : c ≤ b) : c ≤ mn a b := by unfold mn; split <;> omega
theorem quo_bd {a b : Int} (ha : 0 ≤ a) (hb : 0 ≤ b) : 0 ≤ quo a b ∧ quo a b ≤ 1024 := by
  unfold quo
  split
  · omega
  · exact ⟨mn_ge (Int.ediv_nonneg (by omega) hb) (by omega), (mn_le _ _).2⟩
theorem line_bd {l : List S43} {w : Int} (ok : OkL l w) {f t : Int} (h0 : -1 ≤ f) (h1 : f < t) (h2 : t ≤ l.length) :
    (0 ≤ lineN l f t ∧ lineN l f t ≤ 32770000) ∧ (0 ≤ lineY l f t ∧ lineY l f t ≤ 32770000) ∧ (0 ≤ lineZ l f t ∧ lineZ l f t ≤ 32770000) := by
  have hl := ok.len
  obtain ⟨i, hi⟩ : ∃ i : Nat, f + 1 = i := ⟨(f + 1).toNat, by omega⟩
  obtain ⟨d, hd⟩ : ∃ d : Nat, t = ((i + d : Nat) : Int) := ⟨(t - (f + 1)).toNat, by omega⟩
  unfold lineN lineY lineZ
  rw [hi, hd]
  simp only [Int.toNat_natCast]
  have m1 := nS_mono ok gN (fun x hx => (g_bd hx).1) i d (by omega)
  have m2 := nS_mono ok gY (fun x hx => (g_bd hx).2.1) i d (by omega)
  have m3 := nS_mono ok gZ (fun x hx => (g_bd hx).2.2) i d (by omega)
  have n1 := nS_bd ok gN (fun x hx => (g_bd hx).1) (i + d) (by omega)
  have n2 := nS_bd ok gY (fun x hx => (g_bd hx).2.1) (i + d) (by omega)
  have n3 := nS_bd ok gZ (fun x hx => (g_bd hx).2.2) (i + d) (by omega)
  have p1 := nS_bd ok gN (fun x hx => (g_bd hx).1) i (by omega)
  have p2 := nS_bd ok gY (fun x hx => (g_bd hx).2.1) i (by omega)
  have p3 := nS_bd ok gZ (fun x hx => (g_bd hx).2.2) i (by omega)
  refine ⟨?_, by omega, by omega⟩
  split
  · rename_i hh
    simp only [hyphP, Bool.and_eq_true, decide_eq_true_eq] at hh
    have := rd_ok ok (k := i + d) (by omega)
    have h3 := this.w0
    have h4 := this.w1
    omega
  · omega
theorem rate_bd {w n y z : Int} (h0 : 0 ≤ y) (h1 : 0 ≤ z) (b : Bool) : 0 ≤ rateOf w n y z b ∧ rateOf w n y z b ≤ 1024 := by
  unfold rateOf
  split
  · omega
  · split
    · exact quo_bd (by omega) h0
    · exact quo_bd (by omega) h1
theorem rateP_bd {l : List S43} {w : Int} (ok : OkL l w) {f t : Int} (h0 : -1 ≤ f) (h1 : f < t) (h2 : t ≤ l.length) : 0 ≤ rateP l w f t ∧ rateP l w f t ≤ 1024 := by
  obtain ⟨_, b2, b3⟩ := line_bd ok h0 h1 h2
  exact rate_bd b2.1 b3.1 _
theorem cube_bd {r : Int} (h0 : 0 ≤ r) (h1 : r ≤ 1024) : (0 ≤ 100 * r ∧ 100 * r ≤ 102400) ∧ (0 ≤ 100 * r * r ∧ 100 * r * r ≤ 104857600) ∧ (0 ≤ 100 * r * r * r ∧ 100 * r * r * r ≤ 107374182400) := by
  have a1 : 0 ≤ 100 * r ∧ 100 * r ≤ 102400 := by omega
  have a2 : 0 ≤ 100 * r * r := Int.mul_nonneg a1.1 h0
  have a3 : 100 * r * r ≤ 102400 * 1024 := Int.mul_le_mul a1.2 h1 h0 (by omega)
  have a4 : 0 ≤ 100 * r * r * r := Int.mul_nonneg a2 h0
  have a5 : 100 * r * r * r ≤ 102400 * 1024 * 1024 := Int.mul_le_mul a3 h1 h0 (by omega)
  exact ⟨a1, ⟨a2, by omega⟩, ⟨a4, by omega⟩⟩
theorem bad_bd {r : Int} (h0 : 0 ≤ r) (h1 : r ≤ 1024) : 0 ≤ mn (100 * r * r * r / 2097152) 10000 ∧ mn (100 * r * r * r / 2097152) 10000 ≤ 10000 := by
  obtain ⟨_, _, b⟩ := cube_bd h0 h1
  exact ⟨mn_ge (by omega) (by omega), (mn_le _ _).2⟩
theorem sq_bd {b : Int} (h0 : 0 ≤ b) (h1 : b ≤ 10000) : 100 ≤ (10 + b) * (10 + b) ∧ (10 + b) * (10 + b) ≤ 100200100 := by
  have h2 : (10 : Int) * 10 ≤ (10 + b) * (10 + b) := Int.mul_le_mul (by omega) (by omega) (by omega) (by omega)
  have h3 : (10 + b) * (10 + b) ≤ 10010 * 10010 := Int.mul_le_mul (by omega) (by omega) (by omega) (by omega)
  omega
theorem cost_bd {r : Int} (h0 : 0 ≤ r) (h1 : r ≤ 1024) (h o : Bool) : 100 ≤ costOf r h o ∧ costOf r h o ≤ 1000100202600 := by
  obtain ⟨b0, b1⟩ := bad_bd h0 h1
  have := sq_bd b0 b1
  unfold costOf
  split <;> split <;> omega
theorem costP_bd {l : List S43} {w : Int} (ok : OkL l w) {f t : Int} (h0 : -1 ≤ f) (h1 : f < t) (h2 : t ≤ l.length) : 100 ≤ costP l w f t ∧ costP l w f t ≤ 1000100202600 := by
  have := rateP_bd ok h0 h1 h2
  exact cost_bd this.1 this.2 _ _
/-! ### what the printed functions come to -/
theorem line_spec {l : List S43} {w : Int} (ok : OkL l w) {f t : Int} (h0 : -1 ≤ f) (h1 : f < t) (h2 : t ≤ l.length) (k : Nat) :
    best_flow_line.f (k + 2) l w (sumsTo l l.length) f t = some (lineN l f t, lineY l f t, lineZ l f t, rateP l w f t, overP l w f t) := by
  have hl := ok.len
  have hw0 := ok.w0
  have hw1 := ok.w1
  obtain ⟨i, hi⟩ : ∃ i : Nat, f + 1 = i := ⟨(f + 1).toNat, by omega⟩
  obtain ⟨j, rfl⟩ : ∃ j : Nat, t = j := ⟨t.toNat, by omega⟩
  have hii : i ≤ j := by omega
  obtain ⟨bN, bY, bZ⟩ := line_bd ok h0 h1 h2
  have n1 := nS_bd ok gN (fun x hx => (g_bd hx).1) j (by omega)
  have n2 := nS_bd ok gY (fun x hx => (g_bd hx).2.1) j (by omega)
  have n3 := nS_bd ok gZ (fun x hx => (g_bd hx).2.2) j (by omega)
  have p1 := nS_bd ok gN (fun x hx => (g_bd hx).1) i (by omega)
  have p2 := nS_bd ok gY (fun x hx => (g_bd hx).2.1) i (by omega)
  have p3 := nS_bd ok gZ (fun x hx => (g_bd hx).2.2) i (by omega)
  have hrate := rateP_bd ok h0 h1 h2
  unfold best_flow_line.f best_sums_less.f
  rw [if_pos (by omega), if_pos (by rw [sums_len]; omega), w64 (n := f + 1) (by omega) (by omega), hi, if_pos (by omega), if_pos (by rw [sums_len]; omega)]
  rw [rd_sums l l.length j (by omega), rd_sums l l.length i (by omega), sumAt_ok ok j (by omega), sumAt_ok ok i (by omega)]
  simp only [Option.bind_some, hyphen_f]
  have tail : ∀ n y z : Int, (0 ≤ n ∧ n ≤ 32770000) → (0 ≤ y ∧ y ≤ 32770000) → (0 ≤ z ∧ z ≤ 32770000) →
      best_flow_line.j0 (k + 2) j l w (sumsTo l l.length) n y z 0 false = some (n, y, z, rateOf w n y z ((j : Int) == (l.length : Int)), decide (n - z > w)) := by
    intro n y z hn hy hz
    simp only [best_flow_line.j0]
    have e1 : wrap64 (w - n) = w - n := w64 (by omega) (by omega)
    have e2 : wrap64 (-(w - n)) = n - w := by rw [w64 (by omega) (by omega)]; omega
    have e3 : wrap64 (n - z) = n - z := w64 (by omega) (by omega)
    have fin : ∀ g r : Int, (0 ≤ g ∧ g ≤ 32770000) → 0 ≤ r → best_flow_line.j1 (k + 1) g r l w (sumsTo l l.length) n y z 0 false = some (n, y, z, (if g = 0 then 0 else quo g r), decide (n - z > w)) := by
      intro g r hg hr
      simp only [best_flow_line.j1]
      rw [e3]
      by_cases h : g = 0
      · rw [if_pos h, if_pos h]
      · rw [if_neg h, if_neg h]
        unfold quo
        by_cases h' : r = 0
        · rw [if_pos h', if_pos h']
        · rw [if_neg h', if_neg h', w64 (n := g * 128) (by omega) (by omega)]
          have q1 : (g * 128).tdiv r = g * 128 / r := Int.tdiv_eq_ediv_of_nonneg (by omega)
          have q2 : 0 ≤ g * 128 / r := Int.ediv_nonneg (by omega) hr
          have q3 : g * 128 / r ≤ g * 128 := Int.ediv_le_self _ (by omega)
          rw [q1, w64 (by omega) (by omega)]
    rw [e1]
    by_cases c1 : w - n < 0
    · rw [if_pos c1, e2, fin _ _ (by omega) hz.1]
      unfold rateOf
      rw [if_neg (by omega), if_neg (by omega), if_neg (by omega)]
    · rw [if_neg c1]
      by_cases c2 : (j : Int) = l.length
      · rw [if_pos c2, fin _ _ (by omega) hy.1]
        unfold rateOf
        rw [if_pos rfl, if_pos (by simp [c2]; omega)]
      · rw [if_neg c2, fin _ _ (by omega) hy.1]
        unfold rateOf
        by_cases c3 : w - n = 0
        · rw [if_pos c3, if_pos (by omega)]
        · rw [if_neg c3, if_neg (by simp [c2]; omega), if_pos (by omega)]
  have r0 := tail (lineN l f j) (lineY l f j) (lineZ l f j) bN bY bZ
  unfold rateP overP
  rw [← r0]
  have eY : wrap64 (nS gY l j - nS gY l i) = lineY l f j := by
    unfold lineY; rw [hi]; simp only [Int.toNat_natCast]; exact w64 (by omega) (by omega)
  have eZ : wrap64 (nS gZ l j - nS gZ l i) = lineZ l f j := by
    unfold lineZ; rw [hi]; simp only [Int.toNat_natCast]; exact w64 (by omega) (by omega)
  rw [eY, eZ]
  unfold lineN at bN ⊢
  rw [hi] at bN ⊢
  simp only [Int.toNat_natCast] at bN ⊢
  rw [w64 (n := nS gN l j - nS gN l i) (by omega) (by omega)]
  by_cases hh : hyphP l j = true
  · have hj : (j : Int) < l.length := by
      simp only [hyphP, Bool.and_eq_true, decide_eq_true_eq] at hh
      exact hh.1.2
    rw [if_pos hh] at bN ⊢
    rw [if_pos hh, if_pos hj, w64 (by omega) (by omega)]
  · rw [if_neg hh] at bN ⊢
    rw [if_neg hh, Int.add_zero]
theorem bad_spec {r : Int} (h0 : 0 ≤ r) (h1 : r ≤ 1024) (h o : Bool) :
    (if h = true then (if o = true then (some (wrap64 ((wrap64 ((wrap64 ((wrap64 (10 + (mn ((wrap64 ((wrap64 ((wrap64 (100 * r)) * r)) * r)) / 2097152) 10000))) * (wrap64 (10 + (mn ((wrap64 ((wrap64 ((wrap64 (100 * r)) * r)) * r)) / 2097152) 10000))))) + 2500)) + 1000000000000))) else (some (wrap64 ((wrap64 ((wrap64 (10 + (mn ((wrap64 ((wrap64 ((wrap64 (100 * r)) * r)) * r)) / 2097152) 10000))) * (wrap64 (10 + (mn ((wrap64 ((wrap64 ((wrap64 (100 * r)) * r)) * r)) / 2097152) 10000))))) + 2500)))) else (if o = true then (some (wrap64 ((wrap64 ((wrap64 (10 + (mn ((wrap64 ((wrap64 ((wrap64 (100 * r)) * r)) * r)) / 2097152) 10000))) * (wrap64 (10 + (mn ((wrap64 ((wrap64 ((wrap64 (100 * r)) * r)) * r)) / 2097152) 10000))))) + 1000000000000))) else (some (wrap64 ((wrap64 (10 + (mn ((wrap64 ((wrap64 ((wrap64 (100 * r)) * r)) * r)) / 2097152) 10000))) * (wrap64 (10 + (mn ((wrap64 ((wrap64 ((wrap64 (100 * r)) * r)) * r)) / 2097152) 10000)))))))) = some (costOf r h o) := by
  obtain ⟨a1, a2, a3⟩ := cube_bd h0 h1
  obtain ⟨b0, b1⟩ := bad_bd h0 h1
  have hs := sq_bd b0 b1
  rw [w64 (n := 100 * r) (by omega) (by omega), w64 (n := 100 * r * r) (by omega) (by omega), w64 (n := 100 * r * r * r) (by omega) (by omega)]
  unfold costOf
  generalize mn (100 * r * r * r / 2097152) 10000 = b at *
  rw [w64 (n := 10 + b) (by omega) (by omega)]
  generalize (10 + b) * (10 + b) = q at *
  rw [w64 (n := q) (by omega) (by omega), w64 (n := q + 2500) (by omega) (by omega), w64 (n := q + 2500 + 1000000000000) (by omega) (by omega), w64 (n := q + 1000000000000) (by omega) (by omega)]
  cases h <;> cases o <;> simp
theorem demerits_spec {l : List S43} {w : Int} (ok : OkL l w) {f t : Int} (h0 : -1 ≤ f) (h1 : f < t) (h2 : t ≤ l.length) (k : Nat) :
    best_flow_demerits.f (k + 2) l w (sumsTo l l.length) f t = some (costP l w f t) := by
  have hr := rateP_bd ok h0 h1 h2
  unfold best_flow_demerits.f
  rw [line_spec ok h0 h1 h2 k, hyphen_f]
  simp only [Option.bind_some]
  exact bad_spec hr.1 hr.2 _ _
/-! ### the document's -/
theorem refCheck_l0 {l : List S43} (hl : l.length ≤ 16384) : ∀ (d i : Nat), i + d = l.length → Ev (fun k => stylusref19_Check.l0 k l i) (if (l.drop i).any oddP = true then 1 else 0)
  | 0, i, h => by
    refine Ev.step (f := fun _ => some 0) (fun k => ?_) ?_
    · simp only [stylusref19_Check.l0]
      rw [if_neg (by omega)]
    · rw [List.drop_of_length_le (by omega)]
      exact Ev.now _
  | d + 1, i, h => by
    have hi : i < l.length := by omega
    have hd : l.drop i = rd_T43 l i :: l.drop (i + 1) := by
      rw [List.drop_eq_getElem_cons hi]
      have := rd_get hi
      rw [List.getElem?_eq_getElem hi] at this
      rw [Option.some.inj this]
    have ih := refCheck_l0 hl d (i + 1) (by omega)
    have e : wrap64 ((i : Int) + 1) = ((i + 1 : Nat) : Int) := by rw [w64 (by omega) (by omega)]; omega
    rw [hd, List.any_cons]
    by_cases ho : oddP (rd_T43 l i) = true
    · rw [ho]
      refine Ev.step (f := fun _ => some 1) (fun k => ?_) (Ev.now _)
      simp only [oddP, farP, Bool.or_eq_true, decide_eq_true_eq] at ho
      simp only [stylusref19_Check.l0]
      rw [if_pos (by omega), if_pos (by omega)]
      repeat (first | (split; · rfl) | (exfalso; omega))
    · have ho' : oddP (rd_T43 l i) = false := by simpa using ho
      have hk := odd_ok ho'
      obtain ⟨o1, o2, o3, o4, o5, o6, o7, o8⟩ := hk
      rw [ho', Bool.false_or]
      refine Ev.step (fun k => ?_) ih
      simp only [stylusref19_Check.l0]
      rw [if_pos (by omega), if_pos (by omega), if_neg (by omega), if_neg (by omega), if_neg (by omega), if_neg (by omega), if_neg (by omega), if_neg (by omega), if_neg (by omega), if_neg (by omega), e]
theorem refCheck_ev (l : List S43) (w : Int) : Ev (fun k => stylusref19_Check.f k l w) (checkP l w) := by
  by_cases h1 : w < 1
  · refine Ev.step (f := fun _ => some 1) (fun k => ?_) ?_
    · unfold stylusref19_Check.f; rw [if_pos h1]; simp only [stylusref19_Check.j0]; rfl
    · unfold checkP; rw [if_pos (.inl h1)]; exact Ev.now _
  · by_cases h2 : 1000000 < w
    · refine Ev.step (f := fun _ => some 1) (fun k => ?_) ?_
      · unfold stylusref19_Check.f; rw [if_neg h1, if_pos h2]; simp only [stylusref19_Check.j0]; rfl
      · unfold checkP; rw [if_pos (.inr (.inl h2))]; exact Ev.now _
    · by_cases h3 : 16384 < l.length
      · refine Ev.step (f := fun _ => some 1) (fun k => ?_) ?_
        · unfold stylusref19_Check.f
          rw [if_neg h1, if_neg h2, decide_eq_true (by omega)]
          simp only [stylusref19_Check.j0]; rfl
        · unfold checkP; rw [if_pos (.inr (.inr (.inl h3)))]; exact Ev.now _
      · have h := refCheck_l0 (l := l) (by omega) l.length 0 (by omega)
        refine Ev.step (fun k => ?_) (show Ev (fun k => stylusref19_Check.l0 k l 0) (checkP l w) from ?_)
        · unfold stylusref19_Check.f
          rw [if_neg h1, if_neg h2, decide_eq_false (by omega)]
          simp only [stylusref19_Check.j0]; rfl
        · have e : checkP l w = if (l.drop 0).any oddP = true then 1 else 0 := by
            unfold checkP
            rw [List.drop_zero]
            by_cases ha : l.any oddP = true
            · rw [if_pos ha, if_pos (.inr (.inr (.inr ha)))]
            · rw [if_neg ha, if_neg (by rintro (h | h | h | h) <;> first | exact ha h | omega)]
          rw [e]
          exact h
theorem refLine_l0 {l : List S43} {w : Int} (ok : OkL l w) (t : Nat) (ht : t ≤ l.length) : ∀ (d i : Nat) (n y z : Int), i + d = t → (0 ≤ n ∧ n ≤ 2000 * i) → (0 ≤ y ∧ y ≤ 2000 * i) → (0 ≤ z ∧ z ≤ 2000 * i) →
    Ev (fun k => stylusref19_Line.l0 k l t n y z i) (n + (nS gN l t - nS gN l i) + (if hyphP l t = true then (rd_T43 l t).f1 else 0), y + (nS gY l t - nS gY l i), z + (nS gZ l t - nS gZ l i))
  | 0, i, n, y, z, h, hn, hy, hz => by
    have hl := ok.len
    obtain rfl : i = t := by omega
    refine Ev.step (fun k => ?_) (Ev.now _)
    rw [stylusref19_Line.l0.eq_2, if_neg (by omega), refHyphen_f]
    simp only [Option.bind_some]
    by_cases hh : hyphP l i = true
    · have hj : (i : Int) < l.length := by
        have := hh
        simp only [hyphP, Bool.and_eq_true, decide_eq_true_eq] at this
        exact this.1.2
      have := rd_ok ok (k := i) (by omega)
      have h3 := this.w0
      have h4 := this.w1
      rw [if_pos hh, if_pos (by omega), if_pos hj, if_pos hh, w64 (by omega) (by omega)]
      simp only [Option.some.injEq, Prod.mk.injEq]
      omega
    · rw [if_neg hh, if_neg hh]
      simp only [Option.some.injEq, Prod.mk.injEq]
      omega
  | d + 1, i, n, y, z, h, hn, hy, hz => by
    have hl := ok.len
    have hi : i < l.length := by omega
    have ho := rd_ok ok hi
    obtain ⟨b1, b2, b3⟩ := g_bd ho
    have ih := refLine_l0 ok t ht d (i + 1) (n + gN (rd_T43 l i)) (y + gY (rd_T43 l i)) (z + gZ (rd_T43 l i)) (by omega) (by omega) (by omega) (by omega)
    rw [nS_next gN hi, nS_next gY hi, nS_next gZ hi] at ih
    have c1 : (i : Int) < t := by omega
    have c2 : (0 : Int) ≤ i := by omega
    have c3 : (i : Int) < l.length := by omega
    have E1 : n + gN (rd_T43 l i) + (nS gN l t - (nS gN l i + gN (rd_T43 l i))) = n + (nS gN l t - nS gN l i) := by omega
    have E2 : y + gY (rd_T43 l i) + (nS gY l t - (nS gY l i + gY (rd_T43 l i))) = y + (nS gY l t - nS gY l i) := by omega
    have E3 : z + gZ (rd_T43 l i) + (nS gZ l t - (nS gZ l i + gZ (rd_T43 l i))) = z + (nS gZ l t - nS gZ l i) := by omega
    rw [E1, E2, E3] at ih
    clear E1 E2 E3
    have e : wrap64 ((i : Int) + 1) = ((i + 1 : Nat) : Int) := by rw [w64 (by omega) (by omega)]; omega
    refine Ev.step (fun k => ?_) ih
    obtain ⟨o1, o2, o3, o4, o5, o6, o7, o8⟩ := ho
    rw [stylusref19_Line.l0.eq_2, if_pos c1, if_pos c2, if_pos c3, e]
    clear ih e
    unfold gN at b1 ⊢
    unfold gY at b2 ⊢
    unfold gZ at b3 ⊢
    by_cases h3 : (rd_T43 l i).f0 = 3
    · rw [if_pos h3, if_neg (by omega), if_pos h3, if_neg (by omega), if_neg (by omega), Int.add_zero, Int.add_zero, Int.add_zero]
    · rw [if_neg h3, if_neg h3]
      by_cases h2 : (rd_T43 l i).f0 = 2
      · rw [if_pos h2, if_pos h2, if_pos h2, w64 (by omega) (by omega), w64 (by omega) (by omega), w64 (by omega) (by omega)]
      · rw [if_neg h2, if_neg h2, if_neg h2, w64 (by omega) (by omega), Int.add_zero, Int.add_zero]
theorem refLine_ev {l : List S43} {w : Int} (ok : OkL l w) {f t : Int} (h0 : -1 ≤ f) (h1 : f < t) (h2 : t ≤ l.length) :
    Ev (fun k => stylusref19_Line.f k l f t) (lineN l f t, lineY l f t, lineZ l f t) := by
  have hl := ok.len
  obtain ⟨i, hi⟩ : ∃ i : Nat, f + 1 = i := ⟨(f + 1).toNat, by omega⟩
  obtain ⟨j, rfl⟩ : ∃ j : Nat, t = j := ⟨t.toNat, by omega⟩
  have := refLine_l0 ok j (by omega) (j - i) i 0 0 0 (by omega) (by omega) (by omega) (by omega)
  unfold stylusref19_Line.f lineN lineY lineZ
  rw [w64 (by omega) (by omega), hi]
  simpa using this
theorem quotient_f {a b : Int} (ha : 0 ≤ a) (ha2 : a ≤ 32770000) (hb : 0 ≤ b) : stylusref19_quotient.f a b = some (quo a b) := by
  unfold stylusref19_quotient.f quo
  by_cases h' : b = 0
  · rw [if_pos h', if_pos h']
  · rw [if_neg h', if_neg h', w64 (n := a * 128) (by omega) (by omega)]
    have q1 : (a * 128).tdiv b = a * 128 / b := Int.tdiv_eq_ediv_of_nonneg (by omega)
    have q2 : 0 ≤ a * 128 / b := Int.ediv_nonneg (by omega) hb
    have q3 : a * 128 / b ≤ a * 128 := Int.ediv_le_self _ (by omega)
    rw [q1, w64 (by omega) (by omega)]
theorem refRate_ev {l : List S43} {w : Int} (ok : OkL l w) {f t : Int} (h0 : -1 ≤ f) (h1 : f < t) (h2 : t ≤ l.length) :
    Ev (fun k => stylusref19_Rate.f k l w f t) (rateP l w f t) := by
  have hw0 := ok.w0
  have hw1 := ok.w1
  obtain ⟨bN, bY, bZ⟩ := line_bd ok h0 h1 h2
  have hL := refLine_ev ok h0 h1 h2
  unfold rateP
  generalize lineN l f t = n at *
  generalize lineY l f t = y at *
  generalize lineZ l f t = z at *
  refine Ev.bind hL ?_
  simp only
  refine Ev.step (f := fun _ => some (rateOf w n y z (t == (l.length : Int)))) (fun k => ?_) (Ev.now _)
  simp only [stylusref19_Rate.j0]
  rw [if_true]
  unfold rateOf
  by_cases c1 : n = w
  · rw [if_pos c1, if_pos (.inl c1)]
  · rw [if_neg c1]
    by_cases c2 : n < w
    · rw [if_pos c2]
      cases hb : (t == (l.length : Int))
      · rw [if_neg (by simp), if_pos c2, if_neg (by simp [c1]), if_pos c2, w64 (by omega) (by omega), quotient_f (by omega) (by omega) bY.1]
        rfl
      · rw [if_pos rfl, if_pos (.inr ⟨c2, rfl⟩)]
    · rw [if_neg c2, if_neg (by simp), if_neg c2, if_neg (by rintro (h | h) <;> omega), if_neg c2, w64 (by omega) (by omega), quotient_f (by omega) (by omega) bZ.1]
      rfl
theorem refCost_ev {l : List S43} {w : Int} (ok : OkL l w) {f t : Int} (h0 : -1 ≤ f) (h1 : f < t) (h2 : t ≤ l.length) :
    Ev (fun k => stylusref19_Cost.f k l w f t) (costP l w f t) := by
  obtain ⟨bN, bY, bZ⟩ := line_bd ok h0 h1 h2
  have hr := rateP_bd ok h0 h1 h2
  have hL := refLine_ev ok h0 h1 h2
  have hR := refRate_ev ok h0 h1 h2
  unfold stylusref19_Cost.f
  refine Ev.bind hR ?_
  simp only [refHyphen_f, Option.bind_some]
  unfold costP overP
  generalize lineN l f t = n at *
  generalize lineY l f t = y at *
  generalize lineZ l f t = z at *
  generalize rateP l w f t = r at *
  obtain ⟨a1, a2, a3⟩ := cube_bd hr.1 hr.2
  have hs := bad_spec hr.1 hr.2 (hyphP l t) (decide (n - z > w))
  have q1 : (100 * r * r * r).tdiv 2097152 = 100 * r * r * r / 2097152 := Int.tdiv_eq_ediv_of_nonneg (by omega)
  rw [w64 (n := 100 * r) (by omega) (by omega), w64 (n := 100 * r * r) (by omega) (by omega), w64 (n := 100 * r * r * r) (by omega) (by omega)] at hs ⊢
  rw [q1, w64 (n := 100 * r * r * r / 2097152) (by omega) (by omega)]
  have e3 : wrap64 (n - z) = n - z := w64 (by omega) (by omega)
  cases hh : hyphP l t
  all_goals
    rw [hh] at hs
    first
      | (refine Ev.congr (fun k => if_neg Bool.false_ne_true) ?_; rw [if_neg Bool.false_ne_true] at hs)
      | (refine Ev.congr (fun k => if_pos rfl) ?_; rw [if_pos rfl] at hs)
    refine Ev.bind hL ?_
    refine Ev.congr (fun k => ?_) (Ev.now _)
    refine Eq.trans ?_ hs
    dsimp only
    rw [e3]
    by_cases c : n - z > w
    · rw [if_pos c, if_pos (decide_eq_true c)]
    · rw [if_neg c, if_neg (by simpa using c)]
/-! ### breakings -/
def Br (l : List S43) : Int → List Int → Prop := Go.DP.Fw (placeP l) (legalP l)
def TotP (l : List S43) (w : Int) : Int → List Int → Int := Go.DP.totF (costP l w)
/-- are places a breaking? -/
def legalB (l : List S43) : Int → List Int → Bool
  | f, [] => f == (l.length : Int)
  | f, b :: bs => decide (f < b) && placeP l b && legalP l f b && legalB l b bs
theorem tot_bd {l : List S43} {w : Int} (ok : OkL l w) : ∀ (bs : List Int) (f : Int), -1 ≤ f → Br l f bs → 100 * bs.length ≤ TotP l w f bs ∧ TotP l w f bs ≤ 1000100202600 * bs.length
  | [], f, _, _ => by simp [TotP, Go.DP.totF]
  | b :: bs, f, h0, h => by
    obtain ⟨h1, h2, h3, h4⟩ := h
    have hp := place_le h2
    have ih := tot_bd ok bs b (by omega) h4
    have hc := costP_bd ok h0 h1 hp.2
    unfold TotP at *
    simp only [Go.DP.totF, List.length_cons]
    omega
theorem rd_drop {bs : List Int} {i : Nat} (h : i < bs.length) : bs.drop i = rd bs i :: bs.drop (i + 1) := by
  rw [List.drop_eq_getElem_cons h]
  congr 1
  unfold rd
  rw [Int.toNat_natCast, List.getD_eq_getElem?_getD, List.getElem?_eq_getElem h]
  rfl
theorem refTotal_l0 {l : List S43} {w : Int} (ok : OkL l w) (bs : List Int) (hb : bs.length ≤ 100000) : ∀ (d i : Nat) (s f : Int), i + d = bs.length → -1 ≤ f → Br l f (bs.drop i) → (0 ≤ s ∧ s ≤ 1000100202600 * i) →
    Ev (fun k => stylusref19_Total.l0 k l w bs s f i) (s + TotP l w f (bs.drop i))
  | 0, i, s, f, h, h0, hbr, hs => by
    refine Ev.step (f := fun _ => some s) (fun k => ?_) ?_
    · rw [stylusref19_Total.l0.eq_2, if_neg (by omega)]
    · rw [List.drop_of_length_le (by omega)]
      simp only [TotP, Go.DP.totF, Int.add_zero]
      exact Ev.now _
  | d + 1, i, s, f, h, h0, hbr, hs => by
    have hi : i < bs.length := by omega
    rw [rd_drop hi] at hbr ⊢
    obtain ⟨h1, h2, h3, h4⟩ := hbr
    have hp := place_le h2
    have hc := costP_bd ok h0 h1 hp.2
    have ih := refTotal_l0 ok bs hb d (i + 1) (s + costP l w f (rd bs i)) (rd bs i) (by omega) (by omega) h4 (by omega)
    have e0 : s + TotP l w f (rd bs i :: bs.drop (i + 1)) = s + costP l w f (rd bs i) + TotP l w (rd bs i) (bs.drop (i + 1)) := by
      simp only [TotP, Go.DP.totF]; omega
    rw [e0]
    have c1 : (i : Int) < bs.length := by omega
    have c2 : (0 : Int) ≤ i := by omega
    have e2 : wrap64 (s + costP l w f (rd bs i)) = s + costP l w f (rd bs i) := w64 (by omega) (by omega)
    have e : wrap64 ((i : Int) + 1) = ((i + 1 : Nat) : Int) := by rw [w64 (by omega) (by omega)]; omega
    refine Ev.step (f := fun k => (stylusref19_Cost.f k l w f (rd bs i)).bind fun t215 => (stylusref19_Total.l0 k l w bs (wrap64 (s + t215)) (rd bs i) (wrap64 ((i : Int) + 1)))) (fun k => ?_) ?_
    · rw [stylusref19_Total.l0.eq_2, if_pos c1, if_pos c2]
    · refine Ev.bind (refCost_ev ok h0 h1 hp.2) ?_
      rw [e2, e]
      exact ih
theorem refTotal_ev {l : List S43} {w : Int} (ok : OkL l w) (bs : List Int) (hb : bs.length ≤ 100000) (hbr : Br l (-1) bs) : Ev (fun k => stylusref19_Total.f k l w bs) (TotP l w (-1) bs) := by
  have := refTotal_l0 ok bs hb bs.length 0 0 (-1) (by omega) (by omega) hbr (by omega)
  unfold stylusref19_Total.f
  simpa using this
theorem legalP_iff (l : List S43) (a b : Int) : legalP l a b = false ↔ hyphP l a = true ∧ hyphP l b = true := by
  unfold legalP; cases hyphP l a <;> cases hyphP l b <;> simp
theorem refLegal_l0 (l : List S43) (bs : List Int) (hb : bs.length ≤ 100000) (hpos : 0 < bs.length) : ∀ (d i : Nat) (f : Int), i + d = bs.length →
    Ev (fun k => stylusref19_Legal.l0 k l bs f i) (legalB l f (bs.drop i))
  | 0, i, f, h => by
    refine Ev.step (f := fun _ => some (f == (l.length : Int))) (fun k => ?_) ?_
    · rw [stylusref19_Legal.l0.eq_2, if_neg (by omega), if_pos (by omega)]
    · rw [List.drop_of_length_le (by omega)]
      exact Ev.now _
  | d + 1, i, f, h => by
    have hi : i < bs.length := by omega
    have ih := refLegal_l0 l bs hb hpos d (i + 1) (rd bs i) (by omega)
    rw [rd_drop hi]
    have c1 : (i : Int) < bs.length := by omega
    have c2 : (0 : Int) ≤ i := by omega
    have e : wrap64 ((i : Int) + 1) = ((i + 1 : Nat) : Int) := by rw [w64 (by omega) (by omega)]; omega
    simp only [legalB]
    by_cases h1 : rd bs i ≤ f
    · rw [decide_eq_false (by clear e; omega)]
      refine Ev.step (f := fun _ => some false) (fun k => ?_) (Ev.now _)
      rw [stylusref19_Legal.l0.eq_2, if_pos c1, if_pos c2, if_pos h1]
    · have h1' : decide (f < rd bs i) = true := decide_eq_true (by clear e; omega)
      rw [h1', Bool.true_and]
      cases h2 : placeP l (rd bs i) with
      | false =>
        refine Ev.step (f := fun _ => some false) (fun k => ?_) (Ev.now _)
        rw [stylusref19_Legal.l0.eq_2, if_pos c1, if_pos c2, if_neg h1, refPlace_f, h2]
        rfl
      | true =>
        rw [Bool.true_and]
        cases h3 : legalP l f (rd bs i) with
        | false =>
          obtain ⟨h4, h5⟩ := (legalP_iff _ _ _).1 h3
          refine Ev.step (f := fun _ => some false) (fun k => ?_) (Ev.now _)
          rw [stylusref19_Legal.l0.eq_2, if_pos c1, if_pos c2, if_neg h1, refPlace_f, h2, refHyphen_f, h4, refHyphen_f, h5]
          rfl
        | true =>
          rw [Bool.true_and]
          refine Ev.step (fun k => ?_) ih
          rw [stylusref19_Legal.l0.eq_2, if_pos c1, if_pos c2, if_neg h1, refPlace_f, h2, refHyphen_f, refHyphen_f, e]
          simp only [Option.bind_some, if_true]
          cases h4 : hyphP l f with
          | false => rfl
          | true =>
            cases h5 : hyphP l (rd bs i) with
            | false => rfl
            | true =>
              have := (legalP_iff l f (rd bs i)).2 ⟨h4, h5⟩
              rw [h3] at this
              cases this
def legalL (l : List S43) (bs : List Int) : Bool := decide (0 < bs.length) && legalB l (-1) bs
theorem refLegal_ev (l : List S43) (bs : List Int) (hb : bs.length ≤ 100000) : Ev (fun k => stylusref19_Legal.f k l bs) (legalL l bs) := by
  unfold stylusref19_Legal.f legalL
  by_cases h : 0 < bs.length
  · have := refLegal_l0 l bs hb h bs.length 0 (-1) (by omega)
    rw [decide_eq_true h, Bool.true_and]
    simpa using this
  · rw [decide_eq_false h, Bool.false_and]
    refine Ev.step (f := fun _ => some false) (fun k => ?_) (Ev.now _)
    rw [stylusref19_Legal.l0.eq_2, if_neg (by omega), if_neg (by omega)]
theorem legalB_iff (l : List S43) : ∀ (bs : List Int) (f : Int), legalB l f bs = true ↔ Br l f bs ∧ bs.getLast?.getD f = l.length
  | [], f => by simp [legalB, Br, Go.DP.Fw]
  | b :: bs, f => by
    have e : ((b :: bs).getLast?).getD f = (bs.getLast?).getD b := by
      cases bs with
      | nil => rfl
      | cons c cs => simp [List.getLast?_cons]
    rw [e]
    simp only [legalB, Bool.and_eq_true, decide_eq_true_eq, legalB_iff l bs b]
    simp only [Br, Go.DP.Fw]
    constructor
    · rintro ⟨⟨⟨h1, h2⟩, h3⟩, h4, h5⟩; exact ⟨⟨h1, h2, h3, h4⟩, h5⟩
    · rintro ⟨⟨h1, h2, h3, h4⟩, h5⟩; exact ⟨⟨⟨h1, h2⟩, h3⟩, h4, h5⟩
/-! ### the program's answers -/
def ratioP (l : List S43) (w f t : Int) : Int × Int × Int :=
  if checkP l w = 0 ∧ (f = -1 ∨ (f ≠ l.length ∧ placeP l f = true)) ∧ placeP l t = true ∧ f < t then (lineN l f t, rateP l w f t, 0) else (0, 0, 1)
def demeritsP (l : List S43) (w : Int) (bs : List Int) : Int × Int := if checkP l w = 0 ∧ legalL l bs = true then (TotP l w (-1) bs, 0) else (0, 1)
theorem refRatio_ev (l : List S43) (w f t : Int) : Ev (fun k => stylusref19_Ratio.f k l w f t) (ratioP l w f t) := by
  have none1 : ∀ c : Bool, c = true → Ev (fun k => stylusref19_Ratio.j0 k l w f t c) ((0 : Int), (0 : Int), (1 : Int)) := fun c hc => by
    refine Ev.step (f := fun _ => some (0, 0, 1)) (fun k => ?_) (Ev.now _)
    rw [stylusref19_Ratio.j0.eq_2, if_pos hc]
  have none2 : ∀ c : Bool, c = true → ¬ (checkP l w = 0 ∧ (f = -1 ∨ (f ≠ l.length ∧ placeP l f = true)) ∧ placeP l t = true ∧ f < t) → Ev (fun k => stylusref19_Ratio.j0 k l w f t c) (ratioP l w f t) := fun c hc hn => by
    unfold ratioP; rw [if_neg hn]; exact none1 c hc
  have good : checkP l w = 0 → (f = -1 ∨ (f ≠ l.length ∧ placeP l f = true)) → placeP l t = true → Ev (fun k => stylusref19_Ratio.j0 k l w f t (decide (t ≤ f))) (ratioP l w f t) := fun h1 h2 h3 => by
    by_cases h4 : t ≤ f
    · exact none2 _ (decide_eq_true h4) (by rintro ⟨_, _, _, h⟩; omega)
    · have ok := check_ok h1
      have hp := place_le h3
      have hf : -1 ≤ f := by
        rcases h2 with h2 | h2
        · omega
        · have := place_le h2.2; omega
      unfold ratioP
      rw [if_pos ⟨h1, h2, h3, by omega⟩]
      refine Ev.step (f := fun k => (stylusref19_Line.f k l f t).bind fun bt266 => ((stylusref19_Rate.f k l w f t).bind fun t269 => (some (bt266.1, t269, 0)))) (fun k => ?_) ?_
      · rw [stylusref19_Ratio.j0.eq_2, if_neg (by simpa using h4)]
      · refine Ev.bind (refLine_ev ok hf (by omega) hp.2) ?_
        exact Ev.bind (refRate_ev ok hf (by omega) hp.2) (Ev.now _)
  unfold stylusref19_Ratio.f
  refine Ev.bind (refCheck_ev l w) ?_
  by_cases h1 : checkP l w = 0
  · rw [h1]
    simp only [refPlace_f, Option.bind_some, if_true]
    by_cases h2 : f = -1
    · simp only [if_pos h2]
      cases h3 : placeP l t with
      | true => simp only [if_true]; exact good h1 (.inl h2) h3
      | false => exact none2 _ rfl (by rw [h3]; rintro ⟨_, _, h, _⟩; cases h)
    · simp only [if_neg h2]
      by_cases h4 : f = l.length
      · simp only [if_pos h4]
        exact none2 _ rfl (by rintro ⟨_, h | h, _⟩; exact h2 h; exact h.1 h4)
      · simp only [if_neg h4]
        cases h5 : placeP l f with
        | true =>
          simp only [if_true]
          cases h3 : placeP l t with
          | true => simp only [if_true]; exact good h1 (.inr ⟨h4, h5⟩) h3
          | false => exact none2 _ rfl (by rw [h3]; rintro ⟨_, _, h, _⟩; cases h)
        | false => exact none2 _ rfl (by rw [h5]; rintro ⟨_, h | h, _⟩; exact h2 h; cases h.2)
  · simp only [if_neg h1]
    exact none2 _ rfl (fun h => h1 h.1)
end Go.Proofs.Ytbddfnmhhmkfkaa.Pr
/- Walks of the Go functions of this seat, and the Lean functions that they come to: written by a program (mkprint.py over the kit's print). -/
namespace Go.Proofs.Ytbddfnmhhmkfkaa.Pr
open Go.RowKit Go.Proofs.YtbddfnmhhmkfkaaW.PrintWords Go.Proofs.YtbddfnmhhmkfkaaW.PrintLast Go.Proofs.YtbddfnmhhmkfkaaW.PrintMore
attribute [local go_sem] max2_int min2_int max_two min_two max_three min_three max_four min_four   -- for this text's walks alone
set_option linter.unusedVariables false
set_option linter.unusedSimpArgs false

/-! ### slices_Reverse_int_int: function 47 -/
def slices_Reverse_int_int.l0 : Nat → List Int → Int → Int → Option (List Int)
  | 0, _, _, _ => none
  | k + 1, x0, x2, x3 => if x2 < x3 then (if 0 ≤ x3 then (if x3 < (x0.length : Int) then (if 0 ≤ x2 then (if x2 < (x0.length : Int) then (slices_Reverse_int_int.l0 k ((x0.set (x2 : Int).toNat (rd x0 x3)).set (x3 : Int).toNat (rd x0 x2)) (wrap64 (x2 + 1)) (wrap64 (x3 - 1))) else (none)) else (none)) else (none)) else (none)) else (some x0)
def slices_Reverse_int_int.f (k : Nat) (l0 : List Int) : Option (List Int) := slices_Reverse_int_int.l0 k l0 0 (wrap64 ((l0.length : Int) - 1))
theorem slices_Reverse_int_int.mono_l : ∀ k, (∀ y0 y1 y2, LeO (slices_Reverse_int_int.l0 k y0 y1 y2) (slices_Reverse_int_int.l0 (k + 1) y0 y1 y2))
  | 0 => fun _ _ _ r h => by simp [slices_Reverse_int_int.l0] at h
  | k + 1 => by
    have ih0 := slices_Reverse_int_int.mono_l k
    · intro y0 y1 y2
      unfold slices_Reverse_int_int.l0
      repeat' first
      | (with_reducible exact ih0 _ _ _)
      | (with_reducible exact LeO.refl _)
      | (with_reducible exact LeO.none _)
      | (with_reducible refine LeO.ite ?_ ?_)
      | (with_reducible refine LeO.bind ?_ (fun _ => ?_))
      | exact ih0 _ _ _
      | exact LeO.none _
      | refine LeO.ite ?_ ?_
      | refine LeO.bind ?_ (fun _ => ?_)
theorem slices_Reverse_int_int.mono : ∀ a0 k, LeO (slices_Reverse_int_int.f k a0) (slices_Reverse_int_int.f (k + 1) a0) := by
  intro a0 k
  have ih0 := slices_Reverse_int_int.mono_l k
  unfold slices_Reverse_int_int.f
  repeat' first
      | (with_reducible exact ih0 _ _ _)
      | (with_reducible exact LeO.refl _)
      | (with_reducible exact LeO.none _)
      | (with_reducible refine LeO.ite ?_ ?_)
      | (with_reducible refine LeO.bind ?_ (fun _ => ?_))
      | exact ih0 _ _ _
      | exact LeO.none _
      | refine LeO.ite ?_ ?_
      | refine LeO.bind ?_ (fun _ => ?_)
def slices_Reverse_int_int.T3 : Bool × List (List Nat × List Nat) := (true, [([], []), ([], []), ([], []), ([], []), ([], []), ([], []), ([4, 5], [4, 5]), ([6], [6]), ([], []), ([], []), ([8, 9], [8, 9]), ([10], [10]), ([0, 1, 0, 1, 4, 5, 6, 7, 11], [0, 1]), ([12, 7, 0, 1, 4, 5, 6, 7, 11], [7, 12]), ([2, 3, 0, 1, 2, 3, 4, 5, 6, 7, 8, 9, 10, 11, 12, 13], [2, 3]), ([14, 11, 13, 0, 1, 2, 3, 4, 5, 6, 7, 8, 9, 10, 11, 12, 13], [11, 14])])
def slices_Reverse_int_int.B3 : List Nat := [0, 0, 0, 0, 0, 0, 48, 112, 0, 0, 768, 1792, 4083, 8179, 16383, 32767]
theorem slices_Reverse_int_int.tab3 : rtab .any (opsOf Try.f47 3) = slices_Reverse_int_int.T3 := by kernel_rfl
theorem slices_Reverse_int_int.bits3 : waitsOk slices_Reverse_int_int.T3.2 slices_Reverse_int_int.B3 = true := by kernel_rfl
set_option maxHeartbeats 8000000 in
set_option maxRecDepth 100000 in
theorem slices_Reverse_int_int.calls (k : Nat) (P0_ : Nat → Prop) (u9000_ : Value) (l0 : List Int) (r : List Int) (w0 w : World) (hB : Below w0.heap.size w0 w) (ho0 : Kd.R (Kd.int .i64) 3 w w0.heap.size P0_ u9000_ l0) (h : slices_Reverse_int_int.f k l0 = some r) :
    Calls Try.prog 47 #[u9000_] w fun e w' => e = .returned (.tuple #[]) ∧ Kd.R (Kd.int .i64) 3 w' w0.heap.size (fun k_ => (P0_ k_ ∨ w.heap.size ≤ k_)) u9000_ r ∧ Below w0.heap.size w0 w' ∧ Kept w w' (fun k_ => P0_ k_) := by
  have HO0 := Aside0.mk (show Kd.R (Kd.int .i64) 3 w w0.heap.size (fun k_ => (P0_ k_ ∨ w.heap.size ≤ k_)) u9000_ l0 from Kd.R_mono ho0 (fun k_ hk => (.inl hk)))
  have HK := Aside0.mk (Kept.refl w (fun k_ => P0_ k_))
  have HW0 := Aside0.mk hB.size
  have HB := Aside0.mk hB
  clear hB
  have H : (slices_Reverse_int_int.l0 k l0 0 (wrap64 ((l0.length : Int) - 1))) = some r := h
  clear h
  have H' := Aside0.mk H
  clear H
  obtain ⟨Ao2, co2, eo2⟩ := Kd.R_slice HO0.out
  subst eo2
  go_enter Try.func47, Try.ntmps47
  go_wp2
  go_loopg [2, 3] k (fun kq v2 v3 w' => ∃ (x0_1 : List Int) (x2_1 : Int) (x3_1 : Int), v2 = .int .i64 x2_1 ∧ v3 = .int .i64 x3_1 ∧ Aside0 (slices_Reverse_int_int.l0 kq x0_1 x2_1 x3_1 = some r) ∧ Aside0 (kq ≤ k) ∧ Aside0 (Kd.R (Kd.int .i64) 3 w' w0.heap.size (fun k_ => (P0_ k_ ∨ w.heap.size ≤ k_)) (.slice Ao2 l0.length co2) x0_1) ∧ Aside0 (Kept w w' (fun k_ => P0_ k_)) ∧ Aside0 (Below w0.heap.size w0 w'))
  case atStart => exact ⟨(l0), (0), (wrap64 ((l0.length : Int) - 1)), (by first | rfl | (simp; done) | (simp [*]; done)), (by first | rfl | (simp; done) | (simp [*]; done)), H', ⟨Nat.le_refl _⟩, ⟨by (with_reducible repeat (first | apply Kd.R_alloc | apply Kd.R_drewN | apply Kd.R_drew)); exact HO0.out⟩, ⟨by repeat (first | (with_reducible first | exact HK.out | apply Kept.alloc | apply Kept.drewN | apply Kept.drew) | exact HK.out)⟩, ⟨by repeat (first | (with_reducible first | exact HB.out | apply below_alloc | apply pw_below_drewN | apply below_drew1) | exact HB.out)⟩⟩
  case round =>
    clear H'
    try clear p2
    obtain ⟨x0_1, x2_1, x3_1, rfl, rfl, HA, HK1, HO_0, HK, HB⟩ := hrel
    have hl0_1 := (Kd.R_reads' HO_0.out).1
    rw [hl0_1] at HO_0
    (try simp only [hl0_1])
    cases gk with
    | zero => exact absurd HA.out (by simp [slices_Reverse_int_int.l0])
    | succ k1 =>
      have H := HA.out
      clear HA
      simp only [slices_Reverse_int_int.l0] at H
      by_cases c3 : x2_1 < x3_1
      · rw [if_pos c3] at H
        have c3b0 : decide (x2_1 < x3_1) = true := decide_eq_true c3
        clear c3
        by_cases c4 : 0 ≤ x3_1
        · rw [if_pos c4] at H
          have c4b0 : decide (0 ≤ x3_1) = true := decide_eq_true c4
          clear c4
          by_cases c5 : x3_1 < (x0_1.length : Int)
          · rw [if_pos c5] at H
            have c5b0 : decide (x3_1 < (x0_1.length : Int)) = true := decide_eq_true c5
            clear c5
            by_cases c6 : 0 ≤ x2_1
            · rw [if_pos c6] at H
              have c6b0 : decide (0 ≤ x2_1) = true := decide_eq_true c6
              clear c6
              by_cases c7 : x2_1 < (x0_1.length : Int)
              · rw [if_pos c7] at H
                have c7b0 : decide (x2_1 < (x0_1.length : Int)) = true := decide_eq_true c7
                clear c7
                obtain ⟨y145, hy145⟩ : ∃ y_ : List Int, y_ = (x0_1.set (x2_1 : Int).toNat (rd x0_1 x3_1)) := ⟨_, rfl⟩
                replace H : (slices_Reverse_int_int.l0 k1 (y145.set (x3_1 : Int).toNat (rd x0_1 x2_1)) (wrap64 (x2_1 + 1)) (wrap64 (x3_1 - 1))) = some r := by first | (rw [hy145]; with_reducible exact H) | (have H2_ := (Option.bind_some _ _).symm.trans H; rw [hy145]; with_reducible exact H2_) | (have H2_ := (Option.bind_some _ _).symm.trans H; with_reducible exact H2_) | with_reducible exact H | (rw [hy145]; exact H) | exact H
                have Ny145 := Aside0.mk hy145
                clear hy145
                obtain ⟨y146, hy146⟩ : ∃ y_ : List Int, y_ = (y145.set (x3_1 : Int).toNat (rd x0_1 x2_1)) := ⟨_, rfl⟩
                replace H : (slices_Reverse_int_int.l0 k1 y146 (wrap64 (x2_1 + 1)) (wrap64 (x3_1 - 1))) = some r := by first | (rw [hy146]; with_reducible exact H) | (have H2_ := (Option.bind_some _ _).symm.trans H; rw [hy146]; with_reducible exact H2_) | (have H2_ := (Option.bind_some _ _).symm.trans H; with_reducible exact H2_) | with_reducible exact H | (rw [hy146]; exact H) | exact H
                have Ny146 := Aside0.mk hy146
                clear hy146
                have H' := Aside0.mk H
                clear H
                try go_wp2
                have n0_ := Aside0.mk (Kd.R_drew HO_0.out)
                have n1_ := Aside0.mk (Kept.drew HK.out)
                have n2_ := Aside0.mk (below_drew1 HB.out)
                clear HO_0
                clear HK
                clear HB
                have HO_0 := n0_
                have HK := n1_
                have HB := n2_
                clear n0_ n1_ n2_
                have p143 : 0 ≤ (x3_1 : Int) := of_decide_eq_true (by first | (with_reducible assumption) | assumption)
                have q143 : x3_1 < (x0_1.length : Int) := of_decide_eq_true (by first | (with_reducible assumption) | assumption)
                obtain ⟨ad143, e143, hx143_0⟩ := Kd.at_int (Kd.R_reads' HO_0.out).2.2 x3_1 p143 q143
                cases e143
                replace p143 := eq_true p143
                replace q143 := eq_true q143
                have p144 : 0 ≤ (x2_1 : Int) := of_decide_eq_true (by first | (with_reducible assumption) | assumption)
                have q144 : x2_1 < (x0_1.length : Int) := of_decide_eq_true (by first | (with_reducible assumption) | assumption)
                obtain ⟨ad144, e144, hx144_0⟩ := Kd.at_int (Kd.R_reads' HO_0.out).2.2 x2_1 p144 q144
                obtain rfl : ad143 = ad144 := (by injection e144)
                replace p144 := eq_true p144
                replace q144 := eq_true q144
                have p8 : 0 ≤ (x2_1 : Int) := of_decide_eq_true (by first | (with_reducible assumption) | assumption)
                have q8 : (x2_1 : Int) < ((x0_1.length : Int) : Int) := of_decide_eq_true (by first | (with_reducible assumption) | assumption)
                obtain ⟨go8, co8, eo8, gb8, gl8, cl8, HG8⟩ := Kd.R_form HO_0.out (by omega)
                (first | cases eo8 | (injection eo8 with ea_ en_ ec_; (first | subst ea_ | (injection ea_ with ea_; subst ea_)); subst ec_; clear en_))
                have GB8 := Aside0.mk gb8
                have GG8 := Aside0.mk HG8
                clear gb8 gl8 HG8
                have HMgo8 := Aside0.mk (show (P0_ go8 ∨ w.heap.size ≤ go8) from (HO_0.out.1 _ rfl))
                (first | simp only [add_plain] at hx143_0 | skip)
                (first | simp only [add_plain] at hx144_0 | skip)
                obtain ⟨hx8_0, hf8_0⟩ := Kd.R_celln 0 HO_0.out (x2_1 : Int) p8 q8
                replace p8 := eq_true p8
                replace q8 := eq_true q8
                have HP11 := Kd.R_putn HO_0.out (x2_1 : Int) (rd x0_1 x3_1)
                rw [← Ny145.out] at HP11
                have HQ11 := Aside0.mk HP11
                clear HP11
                have p9 : 0 ≤ (x3_1 : Int) := of_decide_eq_true (by first | (with_reducible assumption) | assumption)
                have q9 : (x3_1 : Int) < ((x0_1.length : Int) : Int) := of_decide_eq_true (by first | (with_reducible assumption) | assumption)
                obtain ⟨hx9_0, hf9_0⟩ := Kd.R_celln 0 HQ11.out (x3_1 : Int) p9 q9
                replace p9 := eq_true p9
                replace q9 := eq_true q9
                have HP12 := Kd.R_putn HQ11.out (x3_1 : Int) (rd x0_1 x2_1)
                rw [← Ny146.out] at HP12
                have HQ12 := Aside0.mk HP12
                clear HP12
                refine start_ (n := 16) (S := fun w' => w'.cell? ⟨go8, (x3_1).toNat, none⟩ = some (.int .i64 (rd x0_1 x3_1)) ∧ w'.cell? ⟨go8, (x2_1).toNat, none⟩ = some (.int .i64 (rd x0_1 x2_1))) (ds := [13, 15]) #[false, false, false, false, false, false, false, false, false, false, false, false, false, false, false, false] (by kernel_rfl) rfl rfl ⟨hx143_0, hx144_0⟩ (fun hHeld => ?_); refine with_tabW slices_Reverse_int_int.tab3 slices_Reverse_int_int.bits3 (fun HT_ HW_ => ?_)
                generalize wr.drew = w10 at HO_0 HK HB GG8 HQ11 HQ12 hf8_0 hf9_0 hx143_0 hx144_0 hx8_0 hx9_0 hHeld ⊢
                refine pure_ (i := 0) (N := some 14) (v := ?_) (a' := ?_) #[true, false, false, false, false, false, false, false, false, false, false, false, false, false, false, false] rfl rfl (any_of HT_.out (by kernel_rfl)) (fun _ _ _ h => h) (Or.inl ⟨by rfl, ?_⟩) ?_ ?_
                rotate_left
                · intro w'
                  go_simp
                  with_reducible rfl
                rotate_left
                · simp only [Act.put, List.setIfInBounds_toArray, List.set_cons_zero, List.set_cons_succ, i64_w, i32_w]
                  rfl
                refine pure_ (i := 1) (N := some 15) (v := ?_) (a' := ?_) #[true, true, false, false, false, false, false, false, false, false, false, false, false, false, false, false] rfl rfl (any_of HT_.out (by kernel_rfl)) (fun _ _ _ h => h) (Or.inl ⟨by rfl, ?_⟩) ?_ ?_
                rotate_left
                · intro w'
                  go_simp
                  with_reducible rfl
                rotate_left
                · simp only [Act.put, List.setIfInBounds_toArray, List.set_cons_zero, List.set_cons_succ, i64_w, i32_w]
                  rfl
                refine pure_ (i := 2) (N := some 16) (v := ?_) (a' := ?_) #[true, true, true, false, false, false, false, false, false, false, false, false, false, false, false, false] rfl rfl (any_of HT_.out (by kernel_rfl)) (fun _ _ _ h => h) (Or.inl ⟨by rfl, ?_⟩) ?_ ?_
                rotate_left
                · intro w'
                  go_simp
                  with_reducible rfl
                rotate_left
                · simp only [Act.put, List.setIfInBounds_toArray, List.set_cons_zero, List.set_cons_succ, i64_w, i32_w]
                  rfl
                refine pure_ (i := 3) (N := some 17) (v := ?_) (a' := ?_) #[true, true, true, true, false, false, false, false, false, false, false, false, false, false, false, false] rfl rfl (any_of HT_.out (by kernel_rfl)) (fun _ _ _ h => h) (Or.inl ⟨by rfl, ?_⟩) ?_ ?_
                rotate_left
                · intro w'
                  go_simp
                  with_reducible rfl
                rotate_left
                · simp only [Act.put, List.setIfInBounds_toArray, List.set_cons_zero, List.set_cons_succ, i64_w, i32_w]
                  rfl
                refine pure_ (i := 4) (N := some 18) (v := ?_) (a' := ?_) #[true, true, true, true, true, false, false, false, false, false, false, false, false, false, false, false] rfl rfl (any_of HT_.out (by kernel_rfl)) (fun _ _ _ h => h) (Or.inl ⟨by rfl, ?_⟩) ?_ ?_
                rotate_left
                · intro w'
                  go_simp
                  with_reducible rfl
                rotate_left
                · simp only [Act.put, List.setIfInBounds_toArray, List.set_cons_zero, List.set_cons_succ, i64_w, i32_w]
                  rfl
                refine pure_ (i := 5) (N := some 19) (v := ?_) (a' := ?_) #[true, true, true, true, true, true, false, false, false, false, false, false, false, false, false, false] rfl rfl (any_of HT_.out (by kernel_rfl)) (fun _ _ _ h => h) (Or.inl ⟨by rfl, ?_⟩) ?_ ?_
                rotate_left
                · intro w'
                  go_simp
                  with_reducible rfl
                rotate_left
                · simp only [Act.put, List.setIfInBounds_toArray, List.set_cons_zero, List.set_cons_succ, i64_w, i32_w]
                  rfl
                refine pure_ (i := 6) (N := some 20) (v := ?_) (a' := ?_) #[true, true, true, true, true, true, true, false, false, false, false, false, false, false, false, false] rfl rfl (any_of HT_.out (by kernel_rfl)) (fun _ _ _ h => h) (Or.inl ⟨by rfl, ?_⟩) ?_ ?_
                rotate_left
                · intro w'
                  go_simp
                  with_reducible rfl
                rotate_left
                · simp only [Act.put, List.setIfInBounds_toArray, List.set_cons_zero, List.set_cons_succ, i64_w, i32_w]
                  rfl
                refine pure_ (i := 8) (N := some 22) (v := ?_) (a' := ?_) #[true, true, true, true, true, true, true, false, true, false, false, false, false, false, false, false] rfl rfl (any_of HT_.out (by kernel_rfl)) (fun _ _ _ h => h) (Or.inl ⟨by rfl, ?_⟩) ?_ ?_
                rotate_left
                · intro w'
                  go_simp
                  with_reducible rfl
                rotate_left
                · simp only [Act.put, List.setIfInBounds_toArray, List.set_cons_zero, List.set_cons_succ, i64_w, i32_w]
                  rfl
                refine pure_ (i := 9) (N := some 23) (v := ?_) (a' := ?_) #[true, true, true, true, true, true, true, false, true, true, false, false, false, false, false, false] rfl rfl (any_of HT_.out (by kernel_rfl)) (fun _ _ _ h => h) (Or.inl ⟨by rfl, ?_⟩) ?_ ?_
                rotate_left
                · intro w'
                  go_simp
                  with_reducible rfl
                rotate_left
                · simp only [Act.put, List.setIfInBounds_toArray, List.set_cons_zero, List.set_cons_succ, i64_w, i32_w]
                  rfl
                refine pure_ (i := 10) (N := some 24) (v := ?_) (a' := ?_) #[true, true, true, true, true, true, true, false, true, true, true, false, false, false, false, false] rfl rfl (any_of HT_.out (by kernel_rfl)) (fun _ _ _ h => h) (Or.inl ⟨by rfl, ?_⟩) ?_ ?_
                rotate_left
                · intro w'
                  go_simp
                  with_reducible rfl
                rotate_left
                · simp only [Act.put, List.setIfInBounds_toArray, List.set_cons_zero, List.set_cons_succ, i64_w, i32_w]
                  rfl
                refine take_ (i := 7) (N := some 21) (v := ?_) (a' := ?_) #[true, true, true, true, true, true, true, true, true, true, true, false, false, false, false, false] rfl rfl (take_ofW HT_.out HW_.out (by kernel_rfl)) (fun _ _ _ h => h) (Or.inl ⟨by rfl, ?_⟩) hHeld ?_ ?_
                rotate_left
                · rintro w' ⟨s0, s1⟩
                  go_simp
                  with_reducible rfl
                rotate_left
                · simp only [Act.put, List.setIfInBounds_toArray, List.set_cons_zero, List.set_cons_succ, i64_w, i32_w]
                  rfl
                refine take_ (i := 11) (N := some 25) (v := ?_) (a' := ?_) #[true, true, true, true, true, true, true, true, true, true, true, true, false, false, false, false] rfl rfl (take_ofW HT_.out HW_.out (by kernel_rfl)) (fun _ _ _ h => h) (Or.inl ⟨by rfl, ?_⟩) hHeld ?_ ?_
                rotate_left
                · rintro w' ⟨s0, s1⟩
                  go_simp
                  with_reducible rfl
                rotate_left
                · simp only [Act.put, List.setIfInBounds_toArray, List.set_cons_zero, List.set_cons_succ, i64_w, i32_w]
                  rfl
                refine pure_ (i := 12) (N := some 26) (v := ?_) (a' := ?_) #[true, true, true, true, true, true, true, true, true, true, true, true, true, false, false, false] rfl rfl (any_of HT_.out (by kernel_rfl)) (fun _ _ _ h => h) (Or.inl ⟨by rfl, ?_⟩) ?_ ?_
                rotate_left
                · intro w'
                  go_simp
                  with_reducible rfl
                rotate_left
                · simp only [Act.put, List.setIfInBounds_toArray, List.set_cons_zero, List.set_cons_succ, i64_w, i32_w]
                  rfl
                refine last_ (i := 13) (N := none) #[true, true, true, true, true, true, true, true, true, true, true, true, true, true, false, false] rfl rfl (one_of HT_.out (by kernel_rfl)) (by decide) (fun K hK => ?_)
                refine skip_ (w1 := ?_) (by rfl) rfl ?_ ?_
                rotate_left
                · go_simp
                  rfl
                refine hK.out _ _ ?_
                clear hK K
                refine pure_ (i := 14) (N := some 27) (v := ?_) (a' := ?_) #[true, true, true, true, true, true, true, true, true, true, true, true, true, true, true, false] rfl rfl (any_of HT_.out (by kernel_rfl)) (fun _ _ _ h => h) (Or.inl ⟨by rfl, ?_⟩) ?_ ?_
                rotate_left
                · intro w'
                  go_simp
                  with_reducible rfl
                rotate_left
                · simp only [Act.put, List.setIfInBounds_toArray, List.set_cons_zero, List.set_cons_succ, i64_w, i32_w]
                  rfl
                refine last_ (i := 15) (N := none) #[true, true, true, true, true, true, true, true, true, true, true, true, true, true, true, true] rfl rfl (one_of HT_.out (by kernel_rfl)) (by decide) (fun K hK => ?_)
                refine skip_ (w1 := ?_) (by rfl) rfl ?_ ?_
                rotate_left
                · go_simp
                  rfl
                refine hK.out _ _ ?_
                clear hK K
                refine done_ (done_of HT_.out (by kernel_rfl)) ?_
                try go_wp2
                (try simp only [← hl0_1])
                go_roundg k1
                case measure => have := HK1.out; omega
                case rel => exact ⟨(y146), (wrap64 (x2_1 + 1)), (wrap64 (x3_1 - 1)), (by first | rfl | (simp; done) | (simp [*]; done)), (by first | rfl | (simp; done) | (simp [*]; done)), H', ⟨by have := HK1.out; omega⟩, ⟨by (try simp only [hl0_1]); (with_reducible repeat (first | apply Kd.R_alloc | apply Kd.R_drewN | apply Kd.R_drew)); exact HQ12.out⟩, ⟨by repeat (first | (with_reducible first | exact HK.out | apply Kept.alloc | apply Kept.drewN | apply Kept.drew | refine Kept.setCell ?_ HMgo8.out _ | refine Kept.setCell ?_ HMgo8.out _) | exact HK.out)⟩, ⟨by repeat (first | (with_reducible first | exact HB.out | apply below_alloc | apply pw_below_drewN | apply below_drew1 | refine below_set ?_ GB8.out | refine below_set ?_ GB8.out) | exact HB.out)⟩⟩
              · rw [if_neg c7] at H
                exact absurd H (by simp)
            · rw [if_neg c6] at H
              exact absurd H (by simp)
          · rw [if_neg c5] at H
            exact absurd H (by simp)
        · rw [if_neg c4] at H
          exact absurd H (by simp)
      · rw [if_neg c3] at H
        have c3b0 : decide (x2_1 < x3_1) = false := decide_eq_false c3
        clear c3
        obtain rfl := Option.some.inj H
        go_wp2
        first | go_end0 | ((try simp only [Exit.inBlock, Exit.then]); refine bodyPost_ret (results_none rfl _ _ _) rfl ?_)
        exact ⟨by first | rfl | (simp [errW_none, errW_some] <;> rfl) | (simp [*, errW_none, errW_some] <;> rfl), (by first | exact (by (with_reducible repeat (first | apply Kd.R_alloc | apply Kd.R_drewN | apply Kd.R_drew)); exact HO_0.out) | (simp only [hl0_1]; exact (by (with_reducible repeat (first | apply Kd.R_alloc | apply Kd.R_drewN | apply Kd.R_drew)); exact HO_0.out))), by repeat (first | (with_reducible first | exact HB.out | apply below_alloc | apply pw_below_drewN | apply below_drew1) | exact HB.out), by repeat (first | (with_reducible first | exact HK.out | apply Kept.alloc | apply Kept.drewN | apply Kept.drew) | exact HK.out)⟩

end Go.Proofs.Ytbddfnmhhmkfkaa.Pr
/- The best way through the places of a flow: plain laws over rows of items. -/
namespace Go.Proofs.Ytbddfnmhhmkfkaa.Pr
set_option linter.unusedVariables false
set_option linter.unusedSimpArgs false
open Go.RowKit Go.Proofs.YtbddfnmhhmkfkaaW.PrintWords Go.Proofs.YtbddfnmhhmkfkaaW.PrintLast Go.Proofs.YtbddfnmhhmkfkaaW.PrintMore
/-! ### the best way: best.Of -/
open Go.DP in
/-- a place where the last line of a row begins; 0 -/
def frmP : List Int → Int | [] => 0 | _ :: r => hd r
def placesTo (l : List S43) (k : Nat) : List Int := ((List.range k).map (fun i : Nat => (i : Int))).filter (placeP l)
theorem placesTo_succ (l : List S43) (k : Nat) : placesTo l (k + 1) = placesTo l k ++ if placeP l k = true then [(k : Int)] else [] := by
  unfold placesTo
  rw [List.range_succ, List.map_append, List.filter_append]
  congr 1
  simp [List.filter_cons]
theorem placesTo_split (l : List S43) (k : Nat) : ∀ d : Nat, ∃ suf, placesTo l (k + d) = placesTo l k ++ suf
  | 0 => ⟨[], by simp⟩
  | d + 1 => by
    obtain ⟨s, h⟩ := placesTo_split l k d
    rw [show k + (d + 1) = (k + d) + 1 by omega, placesTo_succ, h]
    exact ⟨_, List.append_assoc _ _ _⟩
/-- all places -/
def placesP (l : List S43) : List Int := placesTo l (l.length + 1)
theorem places_iff (l : List S43) (y : Int) : placeP l y = true ↔ y ∈ placesP l := by
  unfold placesP placesTo
  rw [List.mem_filter, List.mem_map]
  constructor
  · intro h
    have := place_le h
    exact ⟨⟨y.toNat, by rw [List.mem_range]; omega, by omega⟩, h⟩
  · exact fun h => h.2
theorem places_sorted (l : List S43) : ∀ k, List.Pairwise (· < ·) (placesTo l k) := by
  intro k
  unfold placesTo
  refine List.Pairwise.filter _ ?_
  rw [List.pairwise_map]
  exact List.Pairwise.imp (fun h => by omega) List.pairwise_lt_range
theorem places_len (l : List S43) : ∀ k, (placesTo l k).length ≤ k
  | 0 => by simp [placesTo]
  | k + 1 => by
    have := places_len l k
    rw [placesTo_succ, List.length_append]
    split <;> simp <;> omega
theorem place_end (l : List S43) : placeP l l.length = true := by simp [placeP]
theorem places_last (l : List S43) : (placesP l).getLast? = some (l.length : Int) := by
  unfold placesP
  rw [placesTo_succ, if_pos (place_end l)]
  simp
/-- the ways to the places met, the first one first -/
def waysP (l : List S43) (w : Int) (pre : List Int) : List (List Int × Int) := Go.DP.waysL (legalP l) (costP l w) pre [([], 0)]
def rowR (l : List S43) (w : Int) : List Int := match (waysP l w (placesP l)).getLast? with | some q => q.1 | none => []
def ofP (l : List S43) (w : Int) : List Int × Int := if checkP l w = 0 then ((rowR l w).reverse, 0) else ([], checkP l w)
/-- best.Of -/
def best_Of.f (l0 : List S43) (a1 : Int) : Option (List Int × Int) := if l0.length ≤ 1000000 then some (ofP l0 a1) else none
abbrev InvP (l : List S43) (w : Int) := Go.DP.Inv (placeP l) (legalP l) (costP l w)
abbrev BestP (l : List S43) (w : Int) := Go.DP.Best (placeP l) (legalP l) (costP l w)
abbrev RowP (l : List S43) := Go.DP.Row (placeP l) (legalP l)
theorem inv_pre (l : List S43) (w : Int) (pre suf : List Int) (h : placesP l = pre ++ suf) : InvP l w pre (waysP l w pre) := by
  have hs := places_sorted l (l.length + 1)
  have : ∀ (pre done suf : List Int) (ws : List (List Int × Int)), placesP l = done ++ (pre ++ suf) → InvP l w done ws → InvP l w (done ++ pre) (Go.DP.waysL (legalP l) (costP l w) pre ws) := by
    intro pre
    induction pre with
    | nil => intro done suf ws _ h; simpa [Go.DP.waysL] using h
    | cons t ts ih =>
      intro done suf ws he h
      obtain ⟨q, hq, hi, _⟩ := Go.DP.inv_step (placeP l) (legalP l) (costP l w) (fun t ht => (place_le ht).1) (fun t _ => legal_neg l t) (t := t) (ts := ts ++ suf) h
        (fun y => by rw [places_iff, he]; simp) (by have := hs; rw [show placesTo l (l.length + 1) = placesP l from rfl, he] at this; simpa using this)
      simp only [Go.DP.waysL, hq]
      have := ih (done ++ [t]) suf (ws ++ [q]) (by rw [he]; simp) hi
      simpa using this
  have := this pre [] suf [([], 0)] (by simpa using h) (Go.DP.inv_start _ _ _ (fun t ht => (place_le ht).1))
  rw [List.nil_append] at this
  exact this
theorem row_len (l : List S43) : ∀ x : List Int, RowP l x → (x.length : Int) ≤ Go.DP.hd x + 1 ∧ -1 ≤ Go.DP.hd x ∧ Go.DP.hd x ≤ l.length
  | [], _ => by simp [Go.DP.hd]
  | t :: r, h => by
    have ih := row_len l r h.2.2.2
    have h2 := h.2.1
    have h1 := place_le h.1
    simp only [Go.DP.hd, List.length_cons]
    omega
theorem row_bd {l : List S43} {w : Int} (ok : OkL l w) {x : List Int} (h : RowP l x) : 0 ≤ Go.DP.tot (costP l w) x ∧ Go.DP.tot (costP l w) x ≤ 1000100202600 * x.length := by
  have h1 := (Go.DP.row_fw (placeP l) (legalP l) x).1 h
  have h2 := tot_bd ok x.reverse (-1) (by omega) h1
  rw [Go.DP.tot_fw]
  unfold TotP at h2
  rw [List.length_reverse] at h2
  omega
theorem pick_snoc {legal : Int → Int → Bool} {cost : Int → Int → Int} (t : Int) : ∀ (xs : List (List Int × Int)) (x : List Int × Int) (b : Option (List Int × Int)),
    Go.DP.pick legal cost t (xs ++ [x]) b = if legal (Go.DP.hd x.1) t = true ∧ (∀ y, Go.DP.pick legal cost t xs b = some y → x.2 + cost (Go.DP.hd x.1) t < y.2) then some (t :: x.1, x.2 + cost (Go.DP.hd x.1) t) else Go.DP.pick legal cost t xs b
  | [], x, b => rfl
  | y :: xs, x, b => by
    simp only [List.cons_append, Go.DP.pick]
    exact pick_snoc t xs x _
/-- what is picked so far, as two numbers -/
def encB : Option (List Int × Int) → Int × Int | none => (-1, 0) | some q => (q.2, frmP q.1)
/-- the ways kept when a place is met -/
structure Met (l : List S43) (w : Int) (pre : List Int) (t : Int) : Prop where
  t0 : 0 ≤ t
  t1 : t ≤ l.length
  len : (waysP l w pre).length = pre.length + 1
  few : (waysP l w pre).length ≤ 16386
  at_ : ∀ x ∈ waysP l w pre, -1 ≤ Go.DP.hd x.1 ∧ Go.DP.hd x.1 < t ∧ 0 ≤ x.2 ∧ x.2 ≤ 16387643315803600
  next : ∃ q, Go.DP.pick (legalP l) (costP l w) t (waysP l w pre) none = some q ∧ waysP l w (pre ++ [t]) = waysP l w pre ++ [q] ∧ Go.DP.hd q.1 = t
theorem way_bd {l : List S43} {w : Int} (ok : OkL l w) {x : List Int × Int} (h : BestP l w x.1 x.2) : 0 ≤ x.2 ∧ x.2 ≤ 16387643315803600 := by
  have hl := ok.len
  have h1 := row_bd ok h.1
  have h2 := row_len l x.1 h.1
  have h3 := h.2.1
  omega
theorem met {l : List S43} {w : Int} (ok : OkL l w) (pre : List Int) (t : Int) (suf : List Int) (h : placesP l = pre ++ t :: suf) : Met l w pre t := by
  have hl := ok.len
  have hi := inv_pre l w pre (t :: suf) h
  have ht : placeP l t = true := (places_iff l t).2 (by rw [h]; simp)
  have hp := place_le ht
  have hs := places_sorted l (l.length + 1)
  rw [show placesTo l (l.length + 1) = placesP l from rfl, h] at hs
  have hlen : (waysP l w pre).length = pre.length + 1 := by
    have := congrArg List.length hi.ends
    simpa using this
  have hpl : (placesP l).length ≤ l.length + 1 := places_len l _
  rw [h, List.length_append, List.length_cons] at hpl
  refine ⟨hp.1, hp.2, hlen, by omega, fun x hx => ?_, ?_⟩
  · have hb := hi.best x hx
    have h1 := row_len l x.1 hb.1
    have h2 := way_bd ok hb
    have h3 : Go.DP.hd x.1 ∈ -1 :: pre := by rw [← hi.ends]; exact List.mem_map.2 ⟨x, hx, rfl⟩
    refine ⟨h1.2.1, ?_, h2⟩
    rcases List.mem_cons.1 h3 with h3 | h3
    · omega
    · exact (List.pairwise_append.1 hs).2.2 _ h3 t (by simp)
  · obtain ⟨q, hq, hi', hh⟩ := Go.DP.inv_step (placeP l) (legalP l) (costP l w) (fun t ht => (place_le ht).1) (fun t _ => legal_neg l t) (ts := suf) hi
        (fun y => by rw [places_iff, h]) hs
    refine ⟨q, hq, ?_, hh⟩
    unfold waysP
    rw [Go.DP.waysL_append]
    simp only [Go.DP.waysL]
    rw [show Go.DP.waysL (legalP l) (costP l w) pre [([], 0)] = waysP l w pre from rfl, hq]
/-- what the picks so far are good for -/
theorem pick_bd {l : List S43} {w : Int} (ok : OkL l w) {pre : List Int} {t : Int} (hm : Met l w pre t) : ∀ (j : Nat) (q : List Int × Int), Go.DP.pick (legalP l) (costP l w) t ((waysP l w pre).take j) none = some q → 0 ≤ q.2
  | 0, q, h => by simp [Go.DP.pick] at h
  | j + 1, q, h => by
    rcases Nat.lt_or_ge j (waysP l w pre).length with hj | hj
    · rw [List.take_add_one, List.getElem?_eq_getElem hj] at h
      simp only [Option.toList_some] at h
      rw [pick_snoc] at h
      split at h
      · have hx := hm.at_ _ (List.getElem_mem hj)
        have hc := costP_bd ok hx.1 hx.2.1 hm.t1
        cases h
        dsimp only
        omega
      · exact pick_bd ok hm j q h
    · rw [List.take_of_length_le (by omega)] at h
      have := pick_bd ok hm j q (by rw [List.take_of_length_le hj]; exact h)
      exact this
theorem take_at {l : List S43} {w : Int} {pre : List Int} {j : Nat} (hj : j < (waysP l w pre).length) : (waysP l w pre).take (j + 1) = (waysP l w pre).take j ++ [(waysP l w pre).getD j ([], 0)] := by
  rw [List.take_add_one, List.getElem?_eq_getElem hj, List.getD_eq_getElem?_getD, List.getElem?_eq_getElem hj]
  rfl
theorem way_mem {l : List S43} {w : Int} {pre : List Int} {j : Nat} (hj : j < (waysP l w pre).length) : (waysP l w pre).getD j ([], 0) ∈ waysP l w pre := by
  rw [List.getD_eq_getElem?_getD, List.getElem?_eq_getElem hj]
  exact List.getElem_mem hj
/-- the row that is traced back -/
theorem best_row {l : List S43} {w : Int} (ok : OkL l w) : ∃ s, (rowR l w, s) ∈ waysP l w (placesP l) ∧ Go.DP.hd (rowR l w) = l.length ∧ BestP l w (rowR l w) s := by
  have hi := inv_pre l w (placesP l) [] (by simp)
  obtain ⟨q, h1, h2, h3⟩ := Go.DP.inv_last (placeP l) (legalP l) (costP l w) hi (places_last l)
  have e : rowR l w = q.1 := by unfold rowR; rw [h1]
  rw [e]
  exact ⟨q.2, List.mem_of_getLast? h1, h2, h3⟩
theorem rev_loop : ∀ (d : Nat) (a b m : List Int), m.length = d → a.length = b.length → (a ++ m ++ b).length ≤ 1000000 →
    Ev (fun k => slices_Reverse_int_int.l0 k (a ++ m ++ b) a.length ((a.length : Int) + m.length - 1)) (a ++ m.reverse ++ b)
  | d, a, b, m, hd, hab, hl => by
    match d, hd with
    | 0, hd =>
      obtain rfl : m = [] := List.eq_nil_of_length_eq_zero hd
      refine Ev.step (f := fun _ => some _) (fun k => ?_) (Ev.now _)
      simp only [slices_Reverse_int_int.l0]
      rw [if_neg (by simp; omega)]
      rfl
    | 1, hd =>
      obtain ⟨x, rfl⟩ := List.length_eq_one_iff.1 hd
      refine Ev.step (f := fun _ => some _) (fun k => ?_) (Ev.now _)
      simp only [slices_Reverse_int_int.l0]
      rw [if_neg (by simp)]
      rfl
    | d + 2, hd =>
      obtain ⟨x, m1, rfl⟩ : ∃ x m1, m = x :: m1 := by
        cases m with
        | nil => simp at hd
        | cons x m => exact ⟨x, m, rfl⟩
      obtain ⟨m2, y, rfl⟩ : ∃ m2 y, m1 = m2 ++ [y] := by
        rcases List.eq_nil_or_concat m1 with h | ⟨m2, y, h⟩
        · subst h; simp at hd
        · exact ⟨m2, y, by simpa using h⟩
      have hd2 : m2.length = d := by simpa using hd
      have ih := rev_loop d (a ++ [y]) (x :: b) m2 hd2 (by simp; omega) (by simp at hl ⊢; omega)
      have e1 : (a ++ [y]) ++ m2.reverse ++ (x :: b) = a ++ (x :: (m2 ++ [y])).reverse ++ b := by simp
      rw [e1] at ih
      have hlen : (a ++ (x :: (m2 ++ [y])) ++ b).length = a.length + (d + 2) + b.length := by simp; omega
      rw [hlen] at hl
      have r1 : rd (a ++ (x :: (m2 ++ [y])) ++ b) ((a.length : Int) + ((x :: (m2 ++ [y])).length : Int) - 1) = y := by
        unfold rd
        rw [show ((a.length : Int) + ((x :: (m2 ++ [y])).length : Int) - 1).toNat = a.length + (m2.length + 1) by simp; omega]
        rw [List.getD_eq_getElem?_getD, List.append_assoc, List.getElem?_append_right (by omega)]
        simp
      have r2 : rd (a ++ (x :: (m2 ++ [y])) ++ b) (a.length : Int) = x := by
        unfold rd
        rw [Int.toNat_natCast, List.getD_eq_getElem?_getD, List.append_assoc, List.getElem?_append_right (by omega)]
        simp
      have s1 : ((a ++ (x :: (m2 ++ [y])) ++ b).set a.length y).set (a.length + (m2.length + 1)) x = (a ++ [y]) ++ m2 ++ (x :: b) := by
        rw [List.append_assoc, List.set_append_right _ _ (by omega), List.set_append_right _ _ (by omega)]
        simp
      refine Ev.step (fun k => ?_) ih
      simp only [slices_Reverse_int_int.l0]
      have w1 : wrap64 ((a.length : Int) + 1) = ((a ++ [y]).length : Int) := by rw [w64 (by omega) (by omega)]; simp
      have w2 : wrap64 ((a.length : Int) + ((x :: (m2 ++ [y])).length : Int) - 1 - 1) = ((a ++ [y]).length : Int) + m2.length - 1 := by rw [w64 (by simp; omega) (by simp; omega)]; simp; omega
      have n1 : ((a.length : Int) + ((x :: (m2 ++ [y])).length : Int) - 1).toNat = a.length + (m2.length + 1) := by clear w1 w2; simp; omega
      have c1 : (a.length : Int) < (a.length : Int) + ((x :: (m2 ++ [y])).length : Int) - 1 := by clear w1 w2; simp; omega
      have c2 : (0 : Int) ≤ (a.length : Int) + ((x :: (m2 ++ [y])).length : Int) - 1 := by clear w1 w2; omega
      have c3 : (a.length : Int) + ((x :: (m2 ++ [y])).length : Int) - 1 < ((a ++ (x :: (m2 ++ [y])) ++ b).length : Int) := by clear w1 w2; rw [hlen]; simp; omega
      have c4 : (a.length : Int) < ((a ++ (x :: (m2 ++ [y])) ++ b).length : Int) := by clear w1 w2; rw [hlen]; omega
      rw [if_pos c1, if_pos c2, if_pos c3, if_pos (by clear w1 w2; omega), if_pos c4, r1, r2, w1, w2, n1, Int.toNat_natCast, s1]
theorem reverse_ev (l : List Int) (hl : l.length ≤ 1000000) : Ev (fun k => slices_Reverse_int_int.f k l) l.reverse := by
  have := rev_loop l.length [] [] l rfl rfl (by simpa using hl)
  unfold slices_Reverse_int_int.f
  rw [w64 (by omega) (by omega)]
  simpa using this
end Go.Proofs.Ytbddfnmhhmkfkaa.Pr
/- Walks of the Go functions of this seat, and the Lean functions that they come to: written by a program (mkprint.py over the kit's print). -/
namespace Go.Proofs.Ytbddfnmhhmkfkaa.Pr
open Go.RowKit Go.Proofs.YtbddfnmhhmkfkaaW.PrintWords Go.Proofs.YtbddfnmhhmkfkaaW.PrintLast Go.Proofs.YtbddfnmhhmkfkaaW.PrintMore
attribute [local go_sem] max2_int min2_int max_two min_two max_three min_three max_four min_four   -- for this text's walks alone
set_option linter.unusedVariables false
set_option linter.unusedSimpArgs false

/-! ### styluslaw19_same: function 15 -/
def styluslaw19_same.l0 : Nat → List Int → List Int → Int → Option (Bool)
  | 0, _, _, _ => none
  | k + 1, x0, x1, x5 => if x5 < (x0.length : Int) then (if 0 ≤ x5 then (if x5 < (x1.length : Int) then (if (rd x0 x5) = (rd x1 x5) then (styluslaw19_same.l0 k x0 x1 (wrap64 (x5 + 1))) else (some false)) else (none)) else (none)) else (some true)
def styluslaw19_same.f (k : Nat) (l0 : List Int) (l1 : List Int) : Option (Bool) := if (l0.length : Int) = (l1.length : Int) then (styluslaw19_same.l0 k l0 l1 0) else (some false)
theorem styluslaw19_same.mono_l : ∀ k, (∀ y0 y1 y2, LeO (styluslaw19_same.l0 k y0 y1 y2) (styluslaw19_same.l0 (k + 1) y0 y1 y2))
  | 0 => fun _ _ _ r h => by simp [styluslaw19_same.l0] at h
  | k + 1 => by
    have ih0 := styluslaw19_same.mono_l k
    · intro y0 y1 y2
      unfold styluslaw19_same.l0
      repeat' first
      | (with_reducible exact ih0 _ _ _)
      | (with_reducible exact LeO.refl _)
      | (with_reducible exact LeO.none _)
      | (with_reducible refine LeO.ite ?_ ?_)
      | (with_reducible refine LeO.bind ?_ (fun _ => ?_))
      | exact ih0 _ _ _
      | exact LeO.none _
      | refine LeO.ite ?_ ?_
      | refine LeO.bind ?_ (fun _ => ?_)
theorem styluslaw19_same.mono : ∀ a0 a1 k, LeO (styluslaw19_same.f k a0 a1) (styluslaw19_same.f (k + 1) a0 a1) := by
  intro a0 a1 k
  have ih0 := styluslaw19_same.mono_l k
  unfold styluslaw19_same.f
  repeat' first
      | (with_reducible exact ih0 _ _ _)
      | (with_reducible exact LeO.refl _)
      | (with_reducible exact LeO.none _)
      | (with_reducible refine LeO.ite ?_ ?_)
      | (with_reducible refine LeO.bind ?_ (fun _ => ?_))
      | exact ih0 _ _ _
      | exact LeO.none _
      | refine LeO.ite ?_ ?_
      | refine LeO.bind ?_ (fun _ => ?_)
set_option maxHeartbeats 8000000 in
set_option maxRecDepth 100000 in
theorem styluslaw19_same.calls (k : Nat) (A0 : Option Addr) (c0 : Nat) (l0 : List Int) (A1 : Option Addr) (c1 : Nat) (l1 : List Int) (r : Bool) (w : World) (hr0 : Kd.C (Kd.int .i64) w A0 l0.length l0) (hc0 : l0.length ≤ c0) (hr1 : Kd.C (Kd.int .i64) w A1 l1.length l1) (hc1 : l1.length ≤ c1) (h : styluslaw19_same.f k l0 l1 = some r) :
    Calls Try.prog 15 #[.slice A0 l0.length c0, .slice A1 l1.length c1] w fun e w' => e = .returned (.bool r) ∧ Drawn0 w w' := by
  have HR0 := Aside0.mk hr0
  have HC0 := Aside0.mk hc0
  clear hr0 hc0
  have HR1 := Aside0.mk hr1
  have HC1 := Aside0.mk hc1
  clear hr1 hc1
  have H : (if (l0.length : Int) = (l1.length : Int) then (styluslaw19_same.l0 k l0 l1 0) else (some false)) = some r := h
  clear h
  by_cases c3 : (l0.length : Int) = (l1.length : Int)
  · rw [if_pos c3] at H
    have c3b0 : ((l0.length : Int) == (l1.length : Int)) = true := beq_iff_eq.mpr c3
    have c3b1 : ((l0.length : Int) != (l1.length : Int)) = false := bne_eq_false_iff_eq.mpr c3
    have c3b2 : (l0.length == l1.length) = true := by first | simpa using c3 | (simp at c3 ⊢; omega)
    clear c3
    have H' := Aside0.mk H
    clear H
    go_enter Try.func15, Try.ntmps15
    go_wp2
    repeat (go_quiet (fail); try go_wp2)
    go_loopg [5] k (fun kq v5 w' => ∃ (x5_1 : Int), v5 = .int .i64 x5_1 ∧ Aside0 (styluslaw19_same.l0 kq l0 l1 x5_1 = some r) ∧ Aside0 (kq ≤ k) ∧ Drawn0 w w')
    case atStart => exact ⟨(0), (by first | rfl | (simp; done) | (simp [*]; done)), H', ⟨Nat.le_refl _⟩, by repeat (first | exact Drawn0.refl _ | apply Drawn0.step)⟩
    case round =>
      clear H'
      try clear c1
      try clear p2
      try clear c3
      try clear c3b0
      try clear c3b1
      try clear c3b2
      obtain ⟨x5_1, rfl, HA, HK1, ⟨m1, rfl⟩⟩ := hrel
      cases gk with
      | zero => exact absurd HA.out (by simp [styluslaw19_same.l0])
      | succ k1 =>
        have H := HA.out
        clear HA
        simp only [styluslaw19_same.l0] at H
        by_cases c4 : x5_1 < (l0.length : Int)
        · rw [if_pos c4] at H
          have c4b0 : decide (x5_1 < (l0.length : Int)) = true := decide_eq_true c4
          clear c4
          by_cases c5 : 0 ≤ x5_1
          · rw [if_pos c5] at H
            have c5b0 : decide (0 ≤ x5_1) = true := decide_eq_true c5
            clear c5
            by_cases c6 : x5_1 < (l1.length : Int)
            · rw [if_pos c6] at H
              have c6b0 : decide (x5_1 < (l1.length : Int)) = true := decide_eq_true c6
              clear c6
              by_cases c7 : (rd l0 x5_1) = (rd l1 x5_1)
              · rw [if_pos c7] at H
                have c7b0 : ((rd l0 x5_1) == (rd l1 x5_1)) = true := beq_iff_eq.mpr c7
                have c7b1 : ((rd l0 x5_1) != (rd l1 x5_1)) = false := bne_eq_false_iff_eq.mpr c7
                clear c7
                have H' := Aside0.mk H
                clear H
                have p147 : 0 ≤ (x5_1 : Int) := of_decide_eq_true (by first | (with_reducible assumption) | assumption)
                have q147 : x5_1 < (l0.length : Int) := of_decide_eq_true (by first | (with_reducible assumption) | assumption)
                obtain ⟨ad147, e147, hx147_0⟩ := Kd.at_int HR0.out x5_1 p147 q147
                cases e147
                replace p147 := eq_true p147
                replace q147 := eq_true q147
                have p148 : 0 ≤ (x5_1 : Int) := of_decide_eq_true (by first | (with_reducible assumption) | assumption)
                have q148 : x5_1 < (l1.length : Int) := of_decide_eq_true (by first | (with_reducible assumption) | assumption)
                obtain ⟨ad148, e148, hx148_0⟩ := Kd.at_int HR1.out x5_1 p148 q148
                cases e148
                replace p148 := eq_true p148
                replace q148 := eq_true q148
                go_wp2
                repeat (go_quiet (fail); try go_wp2)
                go_roundg k1
                case measure => have := HK1.out; omega
                case rel => exact ⟨(wrap64 (x5_1 + 1)), (by first | rfl | (simp; done) | (simp [*]; done)), H', ⟨by have := HK1.out; omega⟩, by repeat (first | exact Drawn0.refl _ | apply Drawn0.step)⟩
              · rw [if_neg c7] at H
                have c7b0 : ((rd l0 x5_1) == (rd l1 x5_1)) = false := beq_eq_false_iff_ne.mpr c7
                have c7b1 : ((rd l0 x5_1) != (rd l1 x5_1)) = true := bne_iff_ne.mpr c7
                obtain rfl := Option.some.inj H
                have p147 : 0 ≤ (x5_1 : Int) := of_decide_eq_true (by first | (with_reducible assumption) | assumption)
                have q147 : x5_1 < (l0.length : Int) := of_decide_eq_true (by first | (with_reducible assumption) | assumption)
                obtain ⟨ad147, e147, hx147_0⟩ := Kd.at_int HR0.out x5_1 p147 q147
                cases e147
                replace p147 := eq_true p147
                replace q147 := eq_true q147
                have p148 : 0 ≤ (x5_1 : Int) := of_decide_eq_true (by first | (with_reducible assumption) | assumption)
                have q148 : x5_1 < (l1.length : Int) := of_decide_eq_true (by first | (with_reducible assumption) | assumption)
                obtain ⟨ad148, e148, hx148_0⟩ := Kd.at_int HR1.out x5_1 p148 q148
                cases e148
                replace p148 := eq_true p148
                replace q148 := eq_true q148
                go_wp2
                repeat (go_quiet (fail); try go_wp2)
                go_ret
                exact ⟨by first | rfl | (simp; done) | (simp [*]; done), by repeat (first | exact Drawn0.refl _ | apply Drawn0.step)⟩
            · rw [if_neg c6] at H
              exact absurd H (by simp)
          · rw [if_neg c5] at H
            exact absurd H (by simp)
        · rw [if_neg c4] at H
          have c4b0 : decide (x5_1 < (l0.length : Int)) = false := decide_eq_false c4
          clear c4
          obtain rfl := Option.some.inj H
          go_wp2
          repeat (go_quiet (fail); try go_wp2)
          go_ret
          exact ⟨by first | rfl | (simp; done) | (simp [*]; done), by repeat (first | exact Drawn0.refl _ | apply Drawn0.step)⟩
  · rw [if_neg c3] at H
    have c3b0 : ((l0.length : Int) == (l1.length : Int)) = false := beq_eq_false_iff_ne.mpr c3
    have c3b1 : ((l0.length : Int) != (l1.length : Int)) = true := bne_iff_ne.mpr c3
    have c3b2 : (l0.length == l1.length) = false := by first | simpa using c3 | (simp at c3 ⊢; omega)
    obtain rfl := Option.some.inj H
    go_enter Try.func15, Try.ntmps15
    go_wp2
    repeat (go_quiet (fail); try go_wp2)
    go_ret
    exact ⟨by first | rfl | (simp; done) | (simp [*]; done), by repeat (first | exact Drawn0.refl _ | apply Drawn0.step)⟩

end Go.Proofs.Ytbddfnmhhmkfkaa.Pr
/- Walks of the Go functions of this seat, and the Lean functions that they come to: written by a program (mkprint.py over the kit's print). -/
namespace Go.Proofs.Ytbddfnmhhmkfkaa.Pr
open Go.RowKit Go.Proofs.YtbddfnmhhmkfkaaW.PrintWords Go.Proofs.YtbddfnmhhmkfkaaW.PrintLast Go.Proofs.YtbddfnmhhmkfkaaW.PrintMore
attribute [local go_sem] max2_int min2_int max_two min_two max_three min_three max_four min_four   -- for this text's walks alone
set_option linter.unusedVariables false
set_option linter.unusedSimpArgs false

/-! ### styluslaw19_of: function 41 -/
def styluslaw19_of.l0 : Nat → ByteArray → List (S43) → Int → Option ((List (S43)))
  | 0, _, _, _ => none
  | k + 1, x0, x3, x4 => if x4 < (x0.size : Int) then (if 0 ≤ x4 then (if (bt x0 x4) = 98 then (if x3.length < 3518437208883 then (styluslaw19_of.l0 k x0 (x3 ++ [(⟨1, 10, 0, 0, 0⟩ : S43)]) (wrap64 (x4 + 1))) else (none)) else (if (bt x0 x4) = 103 then (if x3.length < 3518437208883 then (styluslaw19_of.l0 k x0 (x3 ++ [(⟨2, 10, 5, 5, 0⟩ : S43)]) (wrap64 (x4 + 1))) else (none)) else (if (bt x0 x4) = 104 then (if x3.length < 3518437208883 then (styluslaw19_of.l0 k x0 (x3 ++ [(⟨3, 5, 0, 0, 0⟩ : S43)]) (wrap64 (x4 + 1))) else (none)) else (styluslaw19_of.l0 k x0 x3 (wrap64 (x4 + 1)))))) else (none)) else (some x3)
def styluslaw19_of.f (k : Nat) (a0 : ByteArray) : Option ((List (S43))) := styluslaw19_of.l0 k a0 ([] : List (S43)) 0
theorem styluslaw19_of.mono_l : ∀ k, (∀ y0 y1 y2, LeO (styluslaw19_of.l0 k y0 y1 y2) (styluslaw19_of.l0 (k + 1) y0 y1 y2))
  | 0 => fun _ _ _ r h => by simp [styluslaw19_of.l0] at h
  | k + 1 => by
    have ih0 := styluslaw19_of.mono_l k
    · intro y0 y1 y2
      unfold styluslaw19_of.l0
      repeat' first
      | (with_reducible exact ih0 _ _ _)
      | (with_reducible exact LeO.refl _)
      | (with_reducible exact LeO.none _)
      | (with_reducible refine LeO.ite ?_ ?_)
      | (with_reducible refine LeO.bind ?_ (fun _ => ?_))
      | exact ih0 _ _ _
      | exact LeO.none _
      | refine LeO.ite ?_ ?_
      | refine LeO.bind ?_ (fun _ => ?_)
theorem styluslaw19_of.mono : ∀ a0 k, LeO (styluslaw19_of.f k a0) (styluslaw19_of.f (k + 1) a0) := by
  intro a0 k
  have ih0 := styluslaw19_of.mono_l k
  unfold styluslaw19_of.f
  repeat' first
      | (with_reducible exact ih0 _ _ _)
      | (with_reducible exact LeO.refl _)
      | (with_reducible exact LeO.none _)
      | (with_reducible refine LeO.ite ?_ ?_)
      | (with_reducible refine LeO.bind ?_ (fun _ => ?_))
      | exact ih0 _ _ _
      | exact LeO.none _
      | refine LeO.ite ?_ ?_
      | refine LeO.bind ?_ (fun _ => ?_)
set_option maxHeartbeats 8000000 in
set_option maxRecDepth 100000 in
theorem styluslaw19_of.calls (k : Nat) (a0 : ByteArray) (r : List (S43)) (w : World) (h : styluslaw19_of.f k a0 = some r) :
    Calls Try.prog 41 #[.string a0] w fun e w' => ∃ v0_ : Value, e = .returned (v0_) ∧ Kd.R k43 43 w' w.heap.size (fun _ => True) v0_ r ∧ Below w.heap.size w w' := by
  have hu43 := Try.underlying43
  have HB := Aside0.mk (Below.refl w.heap.size w)
  have H : (styluslaw19_of.l0 k a0 ([] : List (S43)) 0) = some r := h
  clear h
  have H' := Aside0.mk H
  clear H
  go_enter Try.func41, Try.ntmps41
  go_wp2
  go_loopg [3, 4] k (fun kq v3 v4 w' => ∃ (x3_1 : List (S43)) (x4_1 : Int), v4 = .int .i64 x4_1 ∧ Aside0 (styluslaw19_of.l0 kq a0 x3_1 x4_1 = some r) ∧ Aside0 (kq ≤ k) ∧ Aside0 (Kd.R k43 43 w' w.heap.size (fun _ => True) v3 x3_1) ∧ Aside0 (Below w.heap.size w w'))
  case atStart => exact ⟨(([] : List (S43))), (0), (by first | rfl | (simp; done) | (simp [*]; done)), H', ⟨Nat.le_refl _⟩, ⟨by first | exact Kd.R_nil _ _ _ _ _ | exact Kd.N_nil _ _ _ _ _ | exact Kd.V_nil _ _ _ _ _ | exact Kd.Q_nil _ _ _ _ _ | exact Kd.S_nil _ _ _ _ _⟩, ⟨by repeat (first | (with_reducible first | exact HB.out | apply below_alloc | apply pw_below_drewN | apply below_drew1) | exact HB.out)⟩⟩
  case round =>
    clear H'
    obtain ⟨x3_1, x4_1, rfl, HA, HK1, HO_3, HB⟩ := hrel
    cases gk with
    | zero => exact absurd HA.out (by simp [styluslaw19_of.l0])
    | succ k1 =>
      have H := HA.out
      clear HA
      simp only [styluslaw19_of.l0] at H
      by_cases c2 : x4_1 < (a0.size : Int)
      · rw [if_pos c2] at H
        have c2b0 : decide (x4_1 < (a0.size : Int)) = true := decide_eq_true c2
        clear c2
        by_cases c3 : 0 ≤ x4_1
        · rw [if_pos c3] at H
          have c3b0 : decide (0 ≤ x4_1) = true := decide_eq_true c3
          clear c3
          by_cases c5 : (bt a0 x4_1) = 98
          · rw [if_pos c5] at H
            have c5b0 : ((bt a0 x4_1) == 98) = true := beq_iff_eq.mpr c5
            have c5b1 : ((bt a0 x4_1) != 98) = false := bne_eq_false_iff_eq.mpr c5
            clear c5
            by_cases c6 : x3_1.length < 3518437208883
            · rw [if_pos c6] at H
              have LMc6 := Aside0.mk c6
              clear c6
              obtain ⟨y123, hy123⟩ : ∃ y_ : List (S43), y_ = (x3_1 ++ [(⟨1, 10, 0, 0, 0⟩ : S43)]) := ⟨_, rfl⟩
              replace H : (styluslaw19_of.l0 k1 a0 y123 (wrap64 (x4_1 + 1))) = some r := by first | (rw [hy123]; with_reducible exact H) | (have H2_ := (Option.bind_some _ _).symm.trans H; rw [hy123]; with_reducible exact H2_) | (have H2_ := (Option.bind_some _ _).symm.trans H; with_reducible exact H2_) | with_reducible exact H | (rw [hy123]; exact H) | exact H
              have Ny123 := Aside0.mk hy123
              clear hy123
              have H' := Aside0.mk H
              clear H
              have p4 : 0 ≤ (x4_1 : Int) := of_decide_eq_true (by first | (with_reducible assumption) | assumption)
              have q4 : x4_1 < (a0.size : Int) := of_decide_eq_true (by first | (with_reducible assumption) | assumption)
              have hx4 := bt_at a0 x4_1
              replace p4 := eq_true p4
              replace q4 := eq_true q4
              go_wp2_with (first | ((with_reducible refine gate_builtin (b := .append) (xs := #[.tmp 16, .tmp 18]) rfl ?_); at_builtin; refine Kd.R_append k43 (w0 := w) w.heap.size rfl (.tmp 16) (.tmp 18) 22 43 (.agg #[(.int .i64 0), (.int .i64 0), (.int .i64 0), (.int .i64 0), (.int .i64 0)]) 40 rfl Try.underlying22 info43 rfl (by decide) (by omega) u3 x3_1 (⟨1, 10, 0, 0, 0⟩ : S43) [.int .i64 1, .int .i64 10, .int .i64 0, .int .i64 0, .int .i64 0] (fun _ => True) (fun _ => False) rfl rfl ?aP (fun _ hk => hk.elim) ?aF ?aO ?aB ?aS ?aL ?_; (case aP => exact k43_mkM _ _ _ (⟨1, 10, 0, 0, 0⟩ : S43)); (case aB => exact (by repeat (first | (with_reducible first | exact HB.out | apply below_alloc | apply pw_below_drewN | apply below_drew1) | exact HB.out))); (case aF => exact (fun _ _ => trivial)); (case aO => exact (by (with_reducible repeat (first | apply Kd.R_alloc | apply Kd.R_drewN | apply Kd.R_drew)); exact HO_3.out)); (case aS => exact (below_size (by repeat (first | (with_reducible first | exact HB.out | apply below_alloc | apply pw_below_drewN | apply below_drew1) | exact HB.out)))); (case aL => have := LMc6.out; omega); intro v124 w7 ho hb hg hat; rw [← Ny123.out] at ho; have n0_ := Aside0.mk (hb); have n1_ := Aside0.mk (ho); clear HB; clear HO_3; have HB := n0_; have HO125 := n1_; clear n0_ n1_; clear ho hb hg hat))
              go_roundg k1
              case measure => have := HK1.out; omega
              case rel => exact ⟨(y123), (wrap64 (x4_1 + 1)), (by first | rfl | (simp; done) | (simp [*]; done)), H', ⟨by have := HK1.out; omega⟩, ⟨by (with_reducible repeat (first | apply Kd.R_alloc | apply Kd.R_drewN | apply Kd.R_drew)); exact HO125.out⟩, ⟨by repeat (first | (with_reducible first | exact HB.out | apply below_alloc | apply pw_below_drewN | apply below_drew1) | exact HB.out)⟩⟩
            · rw [if_neg c6] at H
              exact absurd H (by simp)
          · rw [if_neg c5] at H
            have c5b0 : ((bt a0 x4_1) == 98) = false := beq_eq_false_iff_ne.mpr c5
            have c5b1 : ((bt a0 x4_1) != 98) = true := bne_iff_ne.mpr c5
            by_cases c8 : (bt a0 x4_1) = 103
            · rw [if_pos c8] at H
              have c8b0 : ((bt a0 x4_1) == 103) = true := beq_iff_eq.mpr c8
              have c8b1 : ((bt a0 x4_1) != 103) = false := bne_eq_false_iff_eq.mpr c8
              clear c8
              by_cases c9 : x3_1.length < 3518437208883
              · rw [if_pos c9] at H
                have LMc9 := Aside0.mk c9
                clear c9
                obtain ⟨y126, hy126⟩ : ∃ y_ : List (S43), y_ = (x3_1 ++ [(⟨2, 10, 5, 5, 0⟩ : S43)]) := ⟨_, rfl⟩
                replace H : (styluslaw19_of.l0 k1 a0 y126 (wrap64 (x4_1 + 1))) = some r := by first | (rw [hy126]; with_reducible exact H) | (have H2_ := (Option.bind_some _ _).symm.trans H; rw [hy126]; with_reducible exact H2_) | (have H2_ := (Option.bind_some _ _).symm.trans H; with_reducible exact H2_) | with_reducible exact H | (rw [hy126]; exact H) | exact H
                have Ny126 := Aside0.mk hy126
                clear hy126
                have H' := Aside0.mk H
                clear H
                have p4 : 0 ≤ (x4_1 : Int) := of_decide_eq_true (by first | (with_reducible assumption) | assumption)
                have q4 : x4_1 < (a0.size : Int) := of_decide_eq_true (by first | (with_reducible assumption) | assumption)
                have hx4 := bt_at a0 x4_1
                replace p4 := eq_true p4
                replace q4 := eq_true q4
                go_wp2_with (first | ((with_reducible refine gate_builtin (b := .append) (xs := #[.tmp 22, .tmp 24]) rfl ?_); at_builtin; refine Kd.R_append k43 (w0 := w) w.heap.size rfl (.tmp 22) (.tmp 24) 22 43 (.agg #[(.int .i64 0), (.int .i64 0), (.int .i64 0), (.int .i64 0), (.int .i64 0)]) 40 rfl Try.underlying22 info43 rfl (by decide) (by omega) u3 x3_1 (⟨2, 10, 5, 5, 0⟩ : S43) [.int .i64 2, .int .i64 10, .int .i64 5, .int .i64 5, .int .i64 0] (fun _ => True) (fun _ => False) rfl rfl ?aP (fun _ hk => hk.elim) ?aF ?aO ?aB ?aS ?aL ?_; (case aP => exact k43_mkM _ _ _ (⟨2, 10, 5, 5, 0⟩ : S43)); (case aB => exact (by repeat (first | (with_reducible first | exact HB.out | apply below_alloc | apply pw_below_drewN | apply below_drew1) | exact HB.out))); (case aF => exact (fun _ _ => trivial)); (case aO => exact (by (with_reducible repeat (first | apply Kd.R_alloc | apply Kd.R_drewN | apply Kd.R_drew)); exact HO_3.out)); (case aS => exact (below_size (by repeat (first | (with_reducible first | exact HB.out | apply below_alloc | apply pw_below_drewN | apply below_drew1) | exact HB.out)))); (case aL => have := LMc9.out; omega); intro v127 w10 ho hb hg hat; rw [← Ny126.out] at ho; have n0_ := Aside0.mk (hb); have n1_ := Aside0.mk (ho); clear HB; clear HO_3; have HB := n0_; have HO128 := n1_; clear n0_ n1_; clear ho hb hg hat))
                go_roundg k1
                case measure => have := HK1.out; omega
                case rel => exact ⟨(y126), (wrap64 (x4_1 + 1)), (by first | rfl | (simp; done) | (simp [*]; done)), H', ⟨by have := HK1.out; omega⟩, ⟨by (with_reducible repeat (first | apply Kd.R_alloc | apply Kd.R_drewN | apply Kd.R_drew)); exact HO128.out⟩, ⟨by repeat (first | (with_reducible first | exact HB.out | apply below_alloc | apply pw_below_drewN | apply below_drew1) | exact HB.out)⟩⟩
              · rw [if_neg c9] at H
                exact absurd H (by simp)
            · rw [if_neg c8] at H
              have c8b0 : ((bt a0 x4_1) == 103) = false := beq_eq_false_iff_ne.mpr c8
              have c8b1 : ((bt a0 x4_1) != 103) = true := bne_iff_ne.mpr c8
              by_cases c11 : (bt a0 x4_1) = 104
              · rw [if_pos c11] at H
                have c11b0 : ((bt a0 x4_1) == 104) = true := beq_iff_eq.mpr c11
                have c11b1 : ((bt a0 x4_1) != 104) = false := bne_eq_false_iff_eq.mpr c11
                clear c11
                by_cases c12 : x3_1.length < 3518437208883
                · rw [if_pos c12] at H
                  have LMc12 := Aside0.mk c12
                  clear c12
                  obtain ⟨y129, hy129⟩ : ∃ y_ : List (S43), y_ = (x3_1 ++ [(⟨3, 5, 0, 0, 0⟩ : S43)]) := ⟨_, rfl⟩
                  replace H : (styluslaw19_of.l0 k1 a0 y129 (wrap64 (x4_1 + 1))) = some r := by first | (rw [hy129]; with_reducible exact H) | (have H2_ := (Option.bind_some _ _).symm.trans H; rw [hy129]; with_reducible exact H2_) | (have H2_ := (Option.bind_some _ _).symm.trans H; with_reducible exact H2_) | with_reducible exact H | (rw [hy129]; exact H) | exact H
                  have Ny129 := Aside0.mk hy129
                  clear hy129
                  have H' := Aside0.mk H
                  clear H
                  have p4 : 0 ≤ (x4_1 : Int) := of_decide_eq_true (by first | (with_reducible assumption) | assumption)
                  have q4 : x4_1 < (a0.size : Int) := of_decide_eq_true (by first | (with_reducible assumption) | assumption)
                  have hx4 := bt_at a0 x4_1
                  replace p4 := eq_true p4
                  replace q4 := eq_true q4
                  go_wp2_with (first | ((with_reducible refine gate_builtin (b := .append) (xs := #[.tmp 28, .tmp 30]) rfl ?_); at_builtin; refine Kd.R_append k43 (w0 := w) w.heap.size rfl (.tmp 28) (.tmp 30) 22 43 (.agg #[(.int .i64 0), (.int .i64 0), (.int .i64 0), (.int .i64 0), (.int .i64 0)]) 40 rfl Try.underlying22 info43 rfl (by decide) (by omega) u3 x3_1 (⟨3, 5, 0, 0, 0⟩ : S43) [.int .i64 3, .int .i64 5, .int .i64 0, .int .i64 0, .int .i64 0] (fun _ => True) (fun _ => False) rfl rfl ?aP (fun _ hk => hk.elim) ?aF ?aO ?aB ?aS ?aL ?_; (case aP => exact k43_mkM _ _ _ (⟨3, 5, 0, 0, 0⟩ : S43)); (case aB => exact (by repeat (first | (with_reducible first | exact HB.out | apply below_alloc | apply pw_below_drewN | apply below_drew1) | exact HB.out))); (case aF => exact (fun _ _ => trivial)); (case aO => exact (by (with_reducible repeat (first | apply Kd.R_alloc | apply Kd.R_drewN | apply Kd.R_drew)); exact HO_3.out)); (case aS => exact (below_size (by repeat (first | (with_reducible first | exact HB.out | apply below_alloc | apply pw_below_drewN | apply below_drew1) | exact HB.out)))); (case aL => have := LMc12.out; omega); intro v130 w13 ho hb hg hat; rw [← Ny129.out] at ho; have n0_ := Aside0.mk (hb); have n1_ := Aside0.mk (ho); clear HB; clear HO_3; have HB := n0_; have HO131 := n1_; clear n0_ n1_; clear ho hb hg hat))
                  go_roundg k1
                  case measure => have := HK1.out; omega
                  case rel => exact ⟨(y129), (wrap64 (x4_1 + 1)), (by first | rfl | (simp; done) | (simp [*]; done)), H', ⟨by have := HK1.out; omega⟩, ⟨by (with_reducible repeat (first | apply Kd.R_alloc | apply Kd.R_drewN | apply Kd.R_drew)); exact HO131.out⟩, ⟨by repeat (first | (with_reducible first | exact HB.out | apply below_alloc | apply pw_below_drewN | apply below_drew1) | exact HB.out)⟩⟩
                · rw [if_neg c12] at H
                  exact absurd H (by simp)
              · rw [if_neg c11] at H
                have c11b0 : ((bt a0 x4_1) == 104) = false := beq_eq_false_iff_ne.mpr c11
                have c11b1 : ((bt a0 x4_1) != 104) = true := bne_iff_ne.mpr c11
                have H' := Aside0.mk H
                clear H
                have p4 : 0 ≤ (x4_1 : Int) := of_decide_eq_true (by first | (with_reducible assumption) | assumption)
                have q4 : x4_1 < (a0.size : Int) := of_decide_eq_true (by first | (with_reducible assumption) | assumption)
                have hx4 := bt_at a0 x4_1
                replace p4 := eq_true p4
                replace q4 := eq_true q4
                go_wp2
                go_roundg k1
                case measure => have := HK1.out; omega
                case rel => exact ⟨(x3_1), (wrap64 (x4_1 + 1)), (by first | rfl | (simp; done) | (simp [*]; done)), H', ⟨by have := HK1.out; omega⟩, ⟨by (with_reducible repeat (first | apply Kd.R_alloc | apply Kd.R_drewN | apply Kd.R_drew)); exact HO_3.out⟩, ⟨by repeat (first | (with_reducible first | exact HB.out | apply below_alloc | apply pw_below_drewN | apply below_drew1) | exact HB.out)⟩⟩
        · rw [if_neg c3] at H
          exact absurd H (by simp)
      · rw [if_neg c2] at H
        have c2b0 : decide (x4_1 < (a0.size : Int)) = false := decide_eq_false c2
        clear c2
        obtain rfl := Option.some.inj H
        go_wp2
        go_ret
        exact ⟨_, by first | rfl | (simp [errW_none, errW_some] <;> rfl) | (simp [*, errW_none, errW_some] <;> rfl), by (with_reducible repeat (first | apply Kd.R_alloc | apply Kd.R_drewN | apply Kd.R_drew)); exact HO_3.out, by repeat (first | (with_reducible first | exact HB.out | apply below_alloc | apply pw_below_drewN | apply below_drew1) | exact HB.out)⟩

end Go.Proofs.Ytbddfnmhhmkfkaa.Pr
/- A range over a function whose elements are known ahead: the body is told which element it meets, and what has been met before it. -/
namespace Go.Next
open Go Go.RowKit
set_option linter.unusedVariables false
variable {F : Fence} {n : Nat} {P : Program} {α : Type}

/-- The function hands out the row xs, one behind the other, as long as it is told to go on; Kp: what a round keeps. -/
def Hands (F : Fence) (n : Nat) (P : Program) (g : Nat) (lb : Array Value) (encs : α → Array Value) (Kp : World → World → Prop) (xs : List α) (w : World) : Prop :=
  ∀ (l : Nat) (J : List α → World → Prop) (W : World), Below w.heap.size w W → AbidesFrom W.heap.size J →
    (∀ pre x suf W1, xs = pre ++ x :: suf → J pre W1 → YieldAt F (n - 1) P l (encs x) W1 fun e W' => e = .returned (.bool true) ∧ J (pre ++ [x]) W' ∧ Kp W1 W') →
    J [] W → CallsIn F n P g (#[.func (.yield l) #[] #[]] ++ lb) W fun e W' => (∃ v, e = .returned v) ∧ J xs W'
/-- where a round's body ends: at its end, and nowhere else -/
def Ends (B : Nat) (Kp : World → World → Prop) (I : List α → World → Prop) (xs : List α) (W : World) : Exit → Act → World → Prop := fun e _ W' => e = .normal ∧ KeepsFrom B W W' ∧ Kp W W' ∧ I xs W'

/-- the record of a loop -/
def recOf (fn : FuncId) (t : Array Value) (ps : Array Tmp) (assign body : Code) (D : Nat) (st : LoopState) : Loop := { state := st, pending := none, fn, tmps := t, params := ps, assign, body, defers := D }

theorem range_next {g : Operand} {ps : Array Tmp} {assign body : Code} {Q : Exit → Act → World → Prop} {a : Act} {w : World}
    (hro : F.round = none) (h1 : 1 ≤ n) {gf : Nat} {lb : Array Value} (hg : a.eval g = .func (.func gf) #[] lb) (hFg : F.fn gf) (eg : ∀ args w, (callFunc gf args).run P w = .ok (.enter gf args) w)
    {encs : α → Array Value} {Kp : World → World → Prop} {xs : List α} {w0 : World} (hseq : Hands F (n - 1) P gf lb encs Kp xs w0)
    (hKt : ∀ {A B C : World}, Kp A B → Kp B C → Kp A C) (hKb : ∀ (W : World) (l : Nat) (o o' : Obj), w.heap.size ≤ l → W.heap[l]? = some o → o.isCells = false → o.isWalk = false → Kp W (W.putObj l o')) (hb0 : Below w0.heap.size w0 w) (hps : ∀ x, (encs x).size = ps.size)
    (I : List α → World → Prop) (hI : OwnFrom w.heap.size I) (h0 : I [] w) (a₁ : α → Act)
    (hassign : ∀ (l : Nat) (x : α) (W : World) (K : Act → World → Prop), K (a₁ x) W →
      assign.wpIn (F.inRound l) (n - 1 - 1) P (Exit.then K (fun _ _ _ => False)) { tmps := (ps.zip (encs x)).foldl (fun t (p, v) => t.setIfInBounds p v) a.tmps, defers := [] } W)
    (hbody : ∀ (l : Nat) (pre : List α) (x : α) (suf : List α) (W : World), xs = pre ++ x :: suf → I pre W → body.wpIn (F.inRound l) (n - 1 - 1) P (Ends w.heap.size Kp I (pre ++ [x]) W) (a₁ x) W)
    (hdone : ∀ (D : Nat) (W : World), w.heap.size ≤ D → I xs W → W.heap[D]? = some (.deferred (some [])) → Q .normal { a with defers := { target := .collected D, args := #[] } :: a.defers } W) :
    (Code.rangeFunc g ps assign body).wpIn F n P Q a w := by
  refine wpIn_rangeFunc fun fn hfn => ?_
  rw [hro]
  -- the two blocks of the loop's book-keeping
  generalize hWd : (w.alloc (.deferred (some []))).alloc (.loop (recOf fn a.tmps ps assign body w.heap.size .ready)) = Wd
  have hs1 : Wd.heap.size = w.heap.size + 2 := by rw [← hWd]; simp
  have hLoop : Wd.heap[w.heap.size + 1]? = some (.loop (recOf fn a.tmps ps assign body w.heap.size .ready)) := by
    rw [← hWd]
    have := World.alloc_heap_new (w.alloc (.deferred (some []))) (.loop (recOf fn a.tmps ps assign body w.heap.size .ready))
    rwa [World.size_alloc] at this
  have hDef : Wd.heap[w.heap.size]? = some (.deferred (some [])) := by
    rw [← hWd]
    exact (Below.heap_alloc _ _ _ (by simp)).trans (World.alloc_heap_new w _)
  have hIWd : I [] Wd := by rw [← hWd]; exact hI.alloc _ (hI.alloc _ h0)
  have hBWd : Below w0.heap.size w0 Wd := by
    rw [← hWd]
    exact (hb0.alloc hb0.size _).alloc (by have := hb0.size; simp; omega) _
  refine ⟨w.heap.size + 1, [{ target := .collected w.heap.size, args := #[] }], Wd, { target := .fn (.func gf) lb, args := #[.func (.yield (w.heap.size + 1)) #[] #[]] }, Wd, gf,
    #[.func (.yield (w.heap.size + 1)) #[] #[]] ++ lb, Wd, ?_, ?_, ?_, ?_, fun _ => h1, ?_⟩
  · rw [← hWd]; exact run_enterLoop_outer _ _ _ _ _
  · simp only [resolve, hg]
    simp [go_sem]
  · intro f' hf'
    simp [Target.leads] at hf'
    subst hf'
    exact hFg
  · simp [invoke, go_sem, eg]
  -- the iterator's word, at the loop's invariant beside the book-keeping
  let J : List α → World → Prop := fun pre W => I pre W ∧ W.heap[w.heap.size + 1]? = some (.loop (recOf fn a.tmps ps assign body w.heap.size .ready)) ∧ W.heap[w.heap.size]? = some (.deferred (some []))
  have hJ : AbidesFrom Wd.heap.size J := by
    intro s A B row hs hgr hr
    refine ⟨hI s A B row hs.1 hgr (fun r e => ?_), (grownBy_keeps hgr (fun r e => (hr r e).2) hs.2.1 rfl).trans hs.2.1, (grownBy_keeps hgr (fun r e => (hr r e).2) hs.2.2 rfl).trans hs.2.2⟩
    obtain ⟨hlt, o, ho, hw⟩ := hr r e
    exact ⟨by omega, o, ho, Obj.not_cells_of_walk hw⟩
  refine (hseq (w.heap.size + 1) J Wd hBWd hJ ?_ ⟨hIWd, hLoop, hDef⟩).mono ?_
  · -- one round
    rintro pre x suf W hxs ⟨hi, hl, hk⟩
    have hy := run_yield (P := P) (args := encs x) hl (hps x)
    refine ⟨fn, _, assign, body, hy, roundIn_of_wpIn hfn (hassign _ x W _ ?_)⟩
    refine ⟨_, run_beginRound hl rfl, ?_⟩
    have hlt : w.heap.size + 1 < W.heap.size := (Array.getElem?_eq_some_iff.1 hl).1
    generalize hWb : W.putObj (w.heap.size + 1) (.loop { recOf fn a.tmps ps assign body w.heap.size .ready with state := .busy }) = Wb
    have hlb : Wb.heap[w.heap.size + 1]? = some (.loop (recOf fn a.tmps ps assign body w.heap.size .busy)) := by rw [← hWb]; exact World.putObj_heap_same hlt
    have hkb : Wb.heap[w.heap.size]? = some (.deferred (some [])) := by rw [← hWb]; exact (World.putObj_heap_other (by omega)).trans hk
    have hib : I pre Wb := by rw [← hWb]; exact hI.putObj _ hi (by omega) hl rfl
    have hpb : Kp W Wb := by rw [← hWb]; exact hKb _ _ _ _ (by omega) hl rfl rfl
    refine wpIn_mono (hbody _ pre x suf Wb hxs hib) ?_
    rintro e a3 W3 ⟨rfl, hkf, hkp, hi3⟩
    have hl3 := hkf.same _ _ (by omega) hlb rfl
    have hk3 := hkf.same _ _ (Nat.le_refl _) hkb rfl
    have hend := run_endRound (P := P) none hl3
    refine ⟨_, _, hend, rfl, ⟨hI.putObj _ hi3 (by omega) hl3 rfl, World.putObj_heap_same (Array.getElem?_eq_some_iff.1 hl3).1, (World.putObj_heap_other (by omega)).trans hk3⟩, ?_⟩
    exact hKt hpb (hKt hkp (hKb _ _ _ _ (by omega) hl3 rfl rfl))
  · -- behind the iterator
    rintro e W2 ⟨⟨v, rfl⟩, hi, hl, hk⟩
    exact ⟨none, _, run_endLoop (P := P) hl (by simp [recOf]), hdone _ _ (Nat.le_refl _) (hI.putObj _ hi (by omega) hl rfl) ((World.putObj_heap_other (by omega)).trans hk)⟩
end Go.Next
/- best.Ratio and best.Demerits, walked by hand. -/
namespace Go.Proofs.Ytbddfnmhhmkfkaa.Pr
set_option linter.unusedVariables false
set_option linter.unusedSimpArgs false
open Go.RowKit Go.Proofs.YtbddfnmhhmkfkaaW.PrintWords
attribute [local go_sem] Oper.semAt_some

theorem flat85_at (xs : List S85) : ∀ (j : Nat) (p : S85), xs[j]? = some p → ((flat85 xs).drop (j * 3)).take 3 = [.int .i64 p.f0, .int .i64 p.f1, .int .i64 p.f2] := by
  induction xs with
  | nil => intro j p h; simp at h
  | cons x xs ih =>
    intro j p h
    cases j with
    | zero => simp at h; subst h; simp [flat85]
    | succ j =>
      have := ih j p (by simpa using h)
      rw [Nat.succ_mul]
      simp only [flat85, List.flatMap_cons] at this ⊢
      rw [show ∀ l : List Value, (([.int .i64 x.f0, .int .i64 x.f1, .int .i64 x.f2] : List Value) ++ l).drop (j * 3 + 3) = l.drop (j * 3) from fun l => rfl]
      exact this
theorem own_R85 {w : World} {base : Nat} {v : Value} {xs : List S85} (h : w.ownsRow base 85 3 v xs.length (flat85 xs)) (b' : Nat) (hb : b' ≤ base) : Kd.R k85 85 w b' (fun _ => True) v xs := by
  refine Kd.R_lower (base := base) ⟨fun _ _ => trivial, flat85 xs, h, flat85_length xs, fun j p hp => ?_⟩ hb
  have := flat85_at xs j p hp
  show k85.M _ _ _ _ (((flat85 xs).drop (j * 3)).take 3)
  rw [this]
  exact k85_mkM _ _ _ _
/-- best.begin: a flow -/
theorem begin_flow (A : Option Addr) (c : Nat) (l : List S43) (wd : Int) (w : World) (hl : l.length ≤ 1000000) (hA : Kd.C k43 w A l.length l) :
    Calls Try.prog 43 #[.slice A l.length c, .int .i64 wd] w fun e w' => ∃ A2 c2, e = .returned (.agg #[.slice A l.length c, .int .i64 wd, .slice A2 (sumsTo l l.length).length c2]) ∧
      Kd.C k85 w' A2 (sumsTo l l.length).length (sumsTo l l.length) ∧ (sumsTo l l.length).length ≤ c2 ∧ Below w.heap.size w w' := by
  refine (begin_calls A c l wd w hl hA).mono ?_
  rintro e w' ⟨v, rfl, ho, hb⟩
  have e1 := sums_len l l.length
  rw [← e1] at ho
  obtain ⟨A2, c2, rfl⟩ := own_slice ho
  have hr := Kd.R_reads' (own_R85 ho _ (Nat.le_refl _))
  exact ⟨A2, c2, rfl, hr.2.2, hr.2.1, hb⟩

theorem flow_cells {w : World} {g : Nat} {A : Option Addr} {n c : Nat} {wd : Int} {v : Value} (h : w.heap[g]? = some (.cells #[.slice A n c, .int .i64 wd, v] 67 (0, 0))) :
    w.cell? ⟨g, 0, none⟩ = some (.slice A n c) ∧ w.cell? ⟨g, 1, none⟩ = some (.int .i64 wd) ∧ w.cell? ⟨g, 2, none⟩ = some v :=
  ⟨by rw [blk_cell h 0]; rfl, by rw [blk_cell h 1]; rfl, by rw [blk_cell h 2]; rfl⟩
/-- best.Ratio -/
def best_Ratio.f (l0 : List S43) (a1 a2 a3 : Int) : Option (Int × Int × Int) := if l0.length ≤ 1000000 then some (ratioP l0 a1 a2 a3) else none
set_option maxRecDepth 100000 in
set_option maxHeartbeats 4000000 in
theorem best_Ratio.calls (A0 : Option Addr) (c0 : Nat) (l0 : List S43) (a1 a2 a3 r1 r2 r3 : Int) (w : World) (hr0 : Kd.C k43 w A0 l0.length l0) (hc0 : l0.length ≤ c0) (h : best_Ratio.f l0 a1 a2 a3 = some (r1, r2, r3)) :
    Calls Try.prog 19 #[.slice A0 l0.length c0, .int .i64 a1, .int .i64 a2, .int .i64 a3] w fun e w' => e = .returned (.tuple #[.int .i64 r1, .int .i64 r2, .int .i64 r3]) ∧ Below w.heap.size w w' := by
  unfold best_Ratio.f at h
  have hl : l0.length ≤ 1000000 := by
    by_cases hl : l0.length ≤ 1000000
    · exact hl
    · rw [if_neg hl] at h; cases h
  rw [if_pos hl] at h
  replace h := Option.some.inj h
  have hb := begin_flow A0 c0 l0 a1 w hl hr0
  have HB := Lib.hid hb
  have hck := fun W (hW : Below w.heap.size w W) => best_Check.calls A0 c0 l0 a1 _ W (Kd.C_below hr0 hW) hc0 rfl
  have HCK := Lib.hid hck
  obtain ⟨S, hS⟩ : ∃ S, sumsTo l0 l0.length = S := ⟨_, rfl⟩
  have hpl := fun a A2 c2 W (hc2 : S.length ≤ c2) (hW : Below w.heap.size w W) (hs : Kd.C k85 W A2 S.length S) => best_flow_place.calls A0 c0 l0 a1 A2 c2 S a _ W (Kd.C_below hr0 hW) hc0 hs hc2 (place_f l0 a1 S a)
  have hp2 := hpl a2
  have hp3 := hpl a3
  rw [hS] at HB
  obtain ⟨b2, e2⟩ : ∃ b, placeP l0 a2 = b := ⟨_, rfl⟩
  obtain ⟨b3, e3⟩ : ∃ b, placeP l0 a3 = b := ⟨_, rfl⟩
  rw [e2] at hp2
  rw [e3] at hp3
  have HP2 := Lib.hid hp2
  have HP3 := Lib.hid hp3
  have HR := Lib.hid hr0
  have HC0 := Lib.hid hc0
  have H := Lib.hid h
  have HS := Lib.hid hS
  have E2 := Lib.hid e2
  have E3 := Lib.hid e3
  have hnl : (l0.length : Int) ≤ 1000000 := by omega
  clear hb hr0 hc0 h hck hpl hp2 hp3 hS e2 e3
  rcases check_01 l0 a1 with hk | hk
  · rw [hk] at HCK
    have HK := Lib.hid hk
    clear hk
    by_cases h1 : a2 = -1
    · subst h1
      cases b3
      · obtain ⟨rfl, rfl, rfl⟩ : r1 = 0 ∧ r2 = 0 ∧ r3 = 1 := by
          have := H.out
          unfold ratioP at this
          rw [if_neg (by rw [E3.out]; rintro ⟨_, _, h, _⟩; cases h)] at this
          simp only [Prod.mk.injEq] at this
          omega
        clear H
        go_enter Try.func19, Try.ntmps19
        go_wp2_with fail
        refine HB.out.mono ?_
        rintro _ w1 ⟨A2, c2, rfl, hs, hc2, hb1⟩
        have hB2 : Below w.heap.size w (w1.alloc (.cells #[.slice A0 l0.length c0, .int .i64 a1, .slice A2 S.length c2] 67)) := below_alloc hb1 _
        have hX2 := blk_new w1 (.cells #[.slice A0 l0.length c0, .int .i64 a1, .slice A2 S.length c2] 67)
        have hS2 := Kd.C_alloc hs (.cells #[.slice A0 l0.length c0, .int .i64 a1, .slice A2 S.length c2] 67)
        go_wp2_with fail
        refine (HCK.out _ hB2).mono ?_
        rintro _ w2 ⟨rfl, hb⟩
        replace hX2 := blk_below hX2 hb
        replace hS2 := Kd.C_below hS2 hb
        replace hB2 := below_step hB2 hb
        clear hs hb hb1
        obtain ⟨x0, x1, x2⟩ := flow_cells hX2
        have HX2 := Lib.hid hX2
        clear hX2
        go_wp2_with fail
        refine (HP3.out A2 c2 _ hc2 hB2 hS2).mono ?_
        rintro _ w3 ⟨rfl, hb⟩
        clear x0 x1 x2
        have hX2 := blk_below HX2.out hb
        replace hS2 := Kd.C_below hS2 hb
        replace hB2 := below_step hB2 hb
        clear hb HX2
        go_wp2
        go_ret3
        exact ⟨rfl, hB2⟩

      · by_cases h2 : a3 ≤ -1
        · obtain ⟨rfl, rfl, rfl⟩ : r1 = 0 ∧ r2 = 0 ∧ r3 = 1 := by
            have := H.out
            unfold ratioP at this
            rw [if_neg (by rintro ⟨_, _, _, h⟩; omega)] at this
            simp only [Prod.mk.injEq] at this
            omega
          clear H
          go_enter Try.func19, Try.ntmps19
          go_wp2_with fail
          refine HB.out.mono ?_
          rintro _ w1 ⟨A2, c2, rfl, hs, hc2, hb1⟩
          have hB2 : Below w.heap.size w (w1.alloc (.cells #[.slice A0 l0.length c0, .int .i64 a1, .slice A2 S.length c2] 67)) := below_alloc hb1 _
          have hX2 := blk_new w1 (.cells #[.slice A0 l0.length c0, .int .i64 a1, .slice A2 S.length c2] 67)
          have hS2 := Kd.C_alloc hs (.cells #[.slice A0 l0.length c0, .int .i64 a1, .slice A2 S.length c2] 67)
          go_wp2_with fail
          refine (HCK.out _ hB2).mono ?_
          rintro _ w2 ⟨rfl, hb⟩
          replace hX2 := blk_below hX2 hb
          replace hS2 := Kd.C_below hS2 hb
          replace hB2 := below_step hB2 hb
          clear hs hb hb1
          obtain ⟨x0, x1, x2⟩ := flow_cells hX2
          have HX2 := Lib.hid hX2
          clear hX2
          go_wp2_with fail
          refine (HP3.out A2 c2 _ hc2 hB2 hS2).mono ?_
          rintro _ w3 ⟨rfl, hb⟩
          clear x0 x1 x2
          have hX2 := blk_below HX2.out hb
          replace hS2 := Kd.C_below hS2 hb
          replace hB2 := below_step hB2 hb
          clear hb HX2
          go_wp2
          go_ret3
          exact ⟨rfl, hB2⟩

        · have hk := HK.out
          have ok := check_ok hk
          have hp3 := place_le E3.out
          have hf1 : -1 ≤ -1 := by omega
          have HL := Lib.hid (line_spec ok hf1 (show -1 < a3 by omega) hp3.2 0)
          have hr := H.out
          unfold ratioP at hr
          rw [if_pos ⟨hk, .inl rfl, E3.out, by omega⟩] at hr
          simp only [Prod.mk.injEq] at hr
          obtain ⟨rfl, rfl, rfl⟩ := hr
          rw [HS.out] at HL
          have hf2 : -1 < a3 := by omega
          clear hk ok hp3 H hf1
          generalize lineN l0 (-1) a3 = n at *
          generalize lineY l0 (-1) a3 = y at *
          generalize lineZ l0 (-1) a3 = z at *
          generalize rateP l0 a1 (-1) a3 = r at *
          generalize overP l0 a1 (-1) a3 = o at *
          go_enter Try.func19, Try.ntmps19
          go_wp2_with fail
          refine HB.out.mono ?_
          rintro _ w1 ⟨A2, c2, rfl, hs, hc2, hb1⟩
          have hB2 : Below w.heap.size w (w1.alloc (.cells #[.slice A0 l0.length c0, .int .i64 a1, .slice A2 S.length c2] 67)) := below_alloc hb1 _
          have hX2 := blk_new w1 (.cells #[.slice A0 l0.length c0, .int .i64 a1, .slice A2 S.length c2] 67)
          have hS2 := Kd.C_alloc hs (.cells #[.slice A0 l0.length c0, .int .i64 a1, .slice A2 S.length c2] 67)
          go_wp2_with fail
          refine (HCK.out _ hB2).mono ?_
          rintro _ w2 ⟨rfl, hb⟩
          replace hX2 := blk_below hX2 hb
          replace hS2 := Kd.C_below hS2 hb
          replace hB2 := below_step hB2 hb
          clear hs hb hb1
          obtain ⟨x0, x1, x2⟩ := flow_cells hX2
          have HX2 := Lib.hid hX2
          clear hX2
          go_wp2_with fail
          refine (HP3.out A2 c2 _ hc2 hB2 hS2).mono ?_
          rintro _ w3 ⟨rfl, hb⟩
          clear x0 x1 x2
          have hX2 := blk_below HX2.out hb
          replace hS2 := Kd.C_below hS2 hb
          replace hB2 := below_step hB2 hb
          clear hb HX2
          obtain ⟨x0, x1, x2⟩ := flow_cells hX2
          have HX2 := Lib.hid hX2
          clear hX2
          go_wp2_with fail
          refine (best_flow_line.calls 2 A0 c0 l0 a1 A2 c2 S (-1) a3 _ _ _ _ _ _ (Kd.C_below HR.out hB2) HC0.out hS2 hc2 HL.out).mono ?_
          rintro _ w3 ⟨rfl, hb⟩
          clear x0 x1 x2
          replace hB2 := below_step hB2 hb
          have hb4 := below_alloc hB2 (.cells #[.int .i64 n, .int .i64 y, .int .i64 z, .int .i64 r, .bool o] 87)
          go_wp2
          go_quiet (fail)
          go_wp2
          go_ret3
          refine ⟨?_, by apply pw_below_drewN; exact hb4⟩
          first | rfl | (simp; done)

    · have g1 : (a2 == -1) = false := beq_eq_false_iff_ne.2 h1
      have g2 : (a2 != -1) = true := bne_iff_ne.2 h1
      by_cases h3 : a2 = l0.length
      · obtain ⟨rfl, rfl, rfl⟩ : r1 = 0 ∧ r2 = 0 ∧ r3 = 1 := by
          have := H.out
          unfold ratioP at this
          rw [if_neg (by rintro ⟨_, h | h, _⟩; exact h1 h; exact h.1 h3)] at this
          simp only [Prod.mk.injEq] at this
          omega
        clear H
        have g3 : (a2 == (l0.length : Int)) = true := beq_iff_eq.2 h3
        clear h1 h3
        go_enter Try.func19, Try.ntmps19
        go_wp2_with fail
        refine HB.out.mono ?_
        rintro _ w1 ⟨A2, c2, rfl, hs, hc2, hb1⟩
        have hB2 : Below w.heap.size w (w1.alloc (.cells #[.slice A0 l0.length c0, .int .i64 a1, .slice A2 S.length c2] 67)) := below_alloc hb1 _
        have hX2 := blk_new w1 (.cells #[.slice A0 l0.length c0, .int .i64 a1, .slice A2 S.length c2] 67)
        have hS2 := Kd.C_alloc hs (.cells #[.slice A0 l0.length c0, .int .i64 a1, .slice A2 S.length c2] 67)
        go_wp2_with fail
        refine (HCK.out _ hB2).mono ?_
        rintro _ w2 ⟨rfl, hb⟩
        replace hX2 := blk_below hX2 hb
        replace hS2 := Kd.C_below hS2 hb
        replace hB2 := below_step hB2 hb
        clear hs hb hb1
        go_wp2
        go_ret3
        exact ⟨rfl, hB2⟩

      · have g3 : (a2 == (l0.length : Int)) = false := beq_eq_false_iff_ne.2 h3
        cases b2
        · obtain ⟨rfl, rfl, rfl⟩ : r1 = 0 ∧ r2 = 0 ∧ r3 = 1 := by
            have := H.out
            unfold ratioP at this
            rw [if_neg (by rw [E2.out]; rintro ⟨_, h | h, _⟩; exact h1 h; cases h.2)] at this
            simp only [Prod.mk.injEq] at this
            omega
          clear H
          clear h1 h3
          go_enter Try.func19, Try.ntmps19
          go_wp2_with fail
          refine HB.out.mono ?_
          rintro _ w1 ⟨A2, c2, rfl, hs, hc2, hb1⟩
          have hB2 : Below w.heap.size w (w1.alloc (.cells #[.slice A0 l0.length c0, .int .i64 a1, .slice A2 S.length c2] 67)) := below_alloc hb1 _
          have hX2 := blk_new w1 (.cells #[.slice A0 l0.length c0, .int .i64 a1, .slice A2 S.length c2] 67)
          have hS2 := Kd.C_alloc hs (.cells #[.slice A0 l0.length c0, .int .i64 a1, .slice A2 S.length c2] 67)
          go_wp2_with fail
          refine (HCK.out _ hB2).mono ?_
          rintro _ w2 ⟨rfl, hb⟩
          replace hX2 := blk_below hX2 hb
          replace hS2 := Kd.C_below hS2 hb
          replace hB2 := below_step hB2 hb
          clear hs hb hb1
          obtain ⟨x0, x1, x2⟩ := flow_cells hX2
          have HX2 := Lib.hid hX2
          clear hX2
          go_wp2_with fail
          refine (HP2.out A2 c2 _ hc2 hB2 hS2).mono ?_
          rintro _ w3 ⟨rfl, hb⟩
          clear x0 x1 x2
          have hX2 := blk_below HX2.out hb
          replace hS2 := Kd.C_below hS2 hb
          replace hB2 := below_step hB2 hb
          clear hb HX2
          go_wp2
          go_ret3
          exact ⟨rfl, hB2⟩

        · cases b3
          · obtain ⟨rfl, rfl, rfl⟩ : r1 = 0 ∧ r2 = 0 ∧ r3 = 1 := by
              have := H.out
              unfold ratioP at this
              rw [if_neg (by rw [E3.out]; rintro ⟨_, _, h, _⟩; cases h)] at this
              simp only [Prod.mk.injEq] at this
              omega
            clear H
            clear h1 h3
            go_enter Try.func19, Try.ntmps19
            go_wp2_with fail
            refine HB.out.mono ?_
            rintro _ w1 ⟨A2, c2, rfl, hs, hc2, hb1⟩
            have hB2 : Below w.heap.size w (w1.alloc (.cells #[.slice A0 l0.length c0, .int .i64 a1, .slice A2 S.length c2] 67)) := below_alloc hb1 _
            have hX2 := blk_new w1 (.cells #[.slice A0 l0.length c0, .int .i64 a1, .slice A2 S.length c2] 67)
            have hS2 := Kd.C_alloc hs (.cells #[.slice A0 l0.length c0, .int .i64 a1, .slice A2 S.length c2] 67)
            go_wp2_with fail
            refine (HCK.out _ hB2).mono ?_
            rintro _ w2 ⟨rfl, hb⟩
            replace hX2 := blk_below hX2 hb
            replace hS2 := Kd.C_below hS2 hb
            replace hB2 := below_step hB2 hb
            clear hs hb hb1
            obtain ⟨x0, x1, x2⟩ := flow_cells hX2
            have HX2 := Lib.hid hX2
            clear hX2
            go_wp2_with fail
            refine (HP2.out A2 c2 _ hc2 hB2 hS2).mono ?_
            rintro _ w3 ⟨rfl, hb⟩
            clear x0 x1 x2
            have hX2 := blk_below HX2.out hb
            replace hS2 := Kd.C_below hS2 hb
            replace hB2 := below_step hB2 hb
            clear hb HX2
            obtain ⟨x0, x1, x2⟩ := flow_cells hX2
            have HX2 := Lib.hid hX2
            clear hX2
            go_wp2_with fail
            refine (HP3.out A2 c2 _ hc2 hB2 hS2).mono ?_
            rintro _ w3 ⟨rfl, hb⟩
            clear x0 x1 x2
            have hX2 := blk_below HX2.out hb
            replace hS2 := Kd.C_below hS2 hb
            replace hB2 := below_step hB2 hb
            clear hb HX2
            go_wp2
            go_ret3
            exact ⟨rfl, hB2⟩

          · by_cases h2 : a3 ≤ a2
            · obtain ⟨rfl, rfl, rfl⟩ : r1 = 0 ∧ r2 = 0 ∧ r3 = 1 := by
                have := H.out
                unfold ratioP at this
                rw [if_neg (by rintro ⟨_, _, _, h⟩; omega)] at this
                simp only [Prod.mk.injEq] at this
                omega
              clear H
              clear h1 h3
              go_enter Try.func19, Try.ntmps19
              go_wp2_with fail
              refine HB.out.mono ?_
              rintro _ w1 ⟨A2, c2, rfl, hs, hc2, hb1⟩
              have hB2 : Below w.heap.size w (w1.alloc (.cells #[.slice A0 l0.length c0, .int .i64 a1, .slice A2 S.length c2] 67)) := below_alloc hb1 _
              have hX2 := blk_new w1 (.cells #[.slice A0 l0.length c0, .int .i64 a1, .slice A2 S.length c2] 67)
              have hS2 := Kd.C_alloc hs (.cells #[.slice A0 l0.length c0, .int .i64 a1, .slice A2 S.length c2] 67)
              go_wp2_with fail
              refine (HCK.out _ hB2).mono ?_
              rintro _ w2 ⟨rfl, hb⟩
              replace hX2 := blk_below hX2 hb
              replace hS2 := Kd.C_below hS2 hb
              replace hB2 := below_step hB2 hb
              clear hs hb hb1
              obtain ⟨x0, x1, x2⟩ := flow_cells hX2
              have HX2 := Lib.hid hX2
              clear hX2
              go_wp2_with fail
              refine (HP2.out A2 c2 _ hc2 hB2 hS2).mono ?_
              rintro _ w3 ⟨rfl, hb⟩
              clear x0 x1 x2
              have hX2 := blk_below HX2.out hb
              replace hS2 := Kd.C_below hS2 hb
              replace hB2 := below_step hB2 hb
              clear hb HX2
              obtain ⟨x0, x1, x2⟩ := flow_cells hX2
              have HX2 := Lib.hid hX2
              clear hX2
              go_wp2_with fail
              refine (HP3.out A2 c2 _ hc2 hB2 hS2).mono ?_
              rintro _ w3 ⟨rfl, hb⟩
              clear x0 x1 x2
              have hX2 := blk_below HX2.out hb
              replace hS2 := Kd.C_below hS2 hb
              replace hB2 := below_step hB2 hb
              clear hb HX2
              go_wp2
              go_ret3
              exact ⟨rfl, hB2⟩

            · have hk := HK.out
              have ok := check_ok hk
              have hp3 := place_le E3.out
              have hf1 : -1 ≤ a2 := (by have := place_le E2.out; omega)
              have HL := Lib.hid (line_spec ok hf1 (show a2 < a3 by omega) hp3.2 0)
              have hr := H.out
              unfold ratioP at hr
              rw [if_pos ⟨hk, .inr ⟨h3, E2.out⟩, E3.out, by omega⟩] at hr
              simp only [Prod.mk.injEq] at hr
              obtain ⟨rfl, rfl, rfl⟩ := hr
              rw [HS.out] at HL
              have hf2 : a2 < a3 := by omega
              clear hk ok hp3 H hf1
              generalize lineN l0 a2 a3 = n at *
              generalize lineY l0 a2 a3 = y at *
              generalize lineZ l0 a2 a3 = z at *
              generalize rateP l0 a1 a2 a3 = r at *
              generalize overP l0 a1 a2 a3 = o at *
              clear h1 h3
              go_enter Try.func19, Try.ntmps19
              go_wp2_with fail
              refine HB.out.mono ?_
              rintro _ w1 ⟨A2, c2, rfl, hs, hc2, hb1⟩
              have hB2 : Below w.heap.size w (w1.alloc (.cells #[.slice A0 l0.length c0, .int .i64 a1, .slice A2 S.length c2] 67)) := below_alloc hb1 _
              have hX2 := blk_new w1 (.cells #[.slice A0 l0.length c0, .int .i64 a1, .slice A2 S.length c2] 67)
              have hS2 := Kd.C_alloc hs (.cells #[.slice A0 l0.length c0, .int .i64 a1, .slice A2 S.length c2] 67)
              go_wp2_with fail
              refine (HCK.out _ hB2).mono ?_
              rintro _ w2 ⟨rfl, hb⟩
              replace hX2 := blk_below hX2 hb
              replace hS2 := Kd.C_below hS2 hb
              replace hB2 := below_step hB2 hb
              clear hs hb hb1
              obtain ⟨x0, x1, x2⟩ := flow_cells hX2
              have HX2 := Lib.hid hX2
              clear hX2
              go_wp2_with fail
              refine (HP2.out A2 c2 _ hc2 hB2 hS2).mono ?_
              rintro _ w3 ⟨rfl, hb⟩
              clear x0 x1 x2
              have hX2 := blk_below HX2.out hb
              replace hS2 := Kd.C_below hS2 hb
              replace hB2 := below_step hB2 hb
              clear hb HX2
              obtain ⟨x0, x1, x2⟩ := flow_cells hX2
              have HX2 := Lib.hid hX2
              clear hX2
              go_wp2_with fail
              refine (HP3.out A2 c2 _ hc2 hB2 hS2).mono ?_
              rintro _ w3 ⟨rfl, hb⟩
              clear x0 x1 x2
              have hX2 := blk_below HX2.out hb
              replace hS2 := Kd.C_below hS2 hb
              replace hB2 := below_step hB2 hb
              clear hb HX2
              obtain ⟨x0, x1, x2⟩ := flow_cells hX2
              have HX2 := Lib.hid hX2
              clear hX2
              go_wp2_with fail
              refine (best_flow_line.calls 2 A0 c0 l0 a1 A2 c2 S a2 a3 _ _ _ _ _ _ (Kd.C_below HR.out hB2) HC0.out hS2 hc2 HL.out).mono ?_
              rintro _ w3 ⟨rfl, hb⟩
              clear x0 x1 x2
              replace hB2 := below_step hB2 hb
              have hb4 := below_alloc hB2 (.cells #[.int .i64 n, .int .i64 y, .int .i64 z, .int .i64 r, .bool o] 87)
              go_wp2
              go_quiet (fail)
              go_wp2
              go_ret3
              refine ⟨?_, by apply pw_below_drewN; exact hb4⟩
              first | rfl | (simp; done)

  · rw [hk] at HCK
    obtain ⟨rfl, rfl, rfl⟩ : r1 = 0 ∧ r2 = 0 ∧ r3 = 1 := by
      have := H.out
      unfold ratioP at this
      rw [if_neg (by rw [hk]; rintro ⟨h, _⟩; cases h)] at this
      simp only [Prod.mk.injEq] at this
      omega
    clear H
    clear hk
    go_enter Try.func19, Try.ntmps19
    go_wp2_with fail
    refine HB.out.mono ?_
    rintro _ w1 ⟨A2, c2, rfl, hs, hc2, hb1⟩
    have hB2 : Below w.heap.size w (w1.alloc (.cells #[.slice A0 l0.length c0, .int .i64 a1, .slice A2 S.length c2] 67)) := below_alloc hb1 _
    have hX2 := blk_new w1 (.cells #[.slice A0 l0.length c0, .int .i64 a1, .slice A2 S.length c2] 67)
    have hS2 := Kd.C_alloc hs (.cells #[.slice A0 l0.length c0, .int .i64 a1, .slice A2 S.length c2] 67)
    go_wp2_with fail
    refine (HCK.out _ hB2).mono ?_
    rintro _ w2 ⟨rfl, hb⟩
    replace hX2 := blk_below hX2 hb
    replace hS2 := Kd.C_below hS2 hb
    replace hB2 := below_step hB2 hb
    clear hs hb hb1
    go_wp2
    go_ret3
    exact ⟨rfl, hB2⟩

/-- best.Demerits -/
def best_Demerits.f (l0 : List S43) (a1 : Int) (l2 : List Int) : Option (Int × Int) := if l0.length ≤ 1000000 ∧ l2.length ≤ 100000 then some (demeritsP l0 a1 l2) else none
/-- what is known when k breaks have been met -/
structure DemInv (l : List S43) (a1 : Int) (bs : List Int) (k : Nat) (f s : Int) : Prop where
  leg : legalB l (-1) bs = legalB l f (bs.drop k)
  tot : TotP l a1 (-1) bs = s + TotP l a1 f (bs.drop k)
  f0 : -1 ≤ f
  f1 : f ≤ l.length
  s0 : 0 ≤ s
  s1 : s ≤ 1000100202600 * k
  last : (k = 0 ∧ f = -1) ∨ (0 < k ∧ f = rd bs ((k : Int) - 1))
theorem dem_start (l : List S43) (a1 : Int) (bs : List Int) : DemInv l a1 bs 0 (-1) 0 := by
  refine ⟨rfl, ?_, ?_, ?_, ?_, ?_, ?_⟩
  · rw [List.drop_zero]; exact (Int.zero_add _).symm
  · omega
  · omega
  · omega
  · omega
  · exact .inl ⟨rfl, rfl⟩
theorem dem_next {l : List S43} {a1 : Int} (ok : OkL l a1) {bs : List Int} {k : Nat} {f s : Int} (h : DemInv l a1 bs k f s) (hk : k < bs.length) (h1 : f < rd bs k) (h2 : placeP l (rd bs k) = true) (h3 : legalP l f (rd bs k) = true) :
    DemInv l a1 bs (k + 1) (rd bs k) (s + costP l a1 f (rd bs k)) := by
  have hp := place_le h2
  have hc := costP_bd ok h.f0 h1 hp.2
  have d := rd_drop hk
  have a := h.s0
  have b := h.s1
  refine ⟨?_, ?_, ?_, ?_, ?_, ?_, ?_⟩
  · rw [h.leg, d]
    simp only [legalB]
    rw [decide_eq_true h1, h2, h3]
    rfl
  · rw [h.tot, d]
    simp only [TotP, Go.DP.totF]
    omega
  · omega
  · omega
  · omega
  · omega
  · refine .inr ⟨by omega, ?_⟩
    congr 1
    omega
theorem dem_end {l : List S43} {a1 : Int} {bs : List Int} {f s : Int} (h : DemInv l a1 bs bs.length f s) (hp : 0 < bs.length) (hl : rd bs ((bs.length : Int) - 1) = l.length) (hc : checkP l a1 = 0) : demeritsP l a1 bs = (s, 0) := by
  have h1 := h.leg
  have h2 := h.tot
  have h3 : f = l.length := by
    rcases h.last with h | h
    · omega
    · rw [h.2, hl]
  rw [List.drop_length] at h1 h2
  have h4 : legalB l (-1) bs = true := by rw [h1, h3]; simp [legalB]
  unfold demeritsP legalL
  rw [h4, decide_eq_true hp, if_pos ⟨hc, rfl⟩, h2]
  simp [TotP, Go.DP.totF]
theorem dem_bad {l : List S43} {a1 : Int} {bs : List Int} {k : Nat} {f s : Int} (h : DemInv l a1 bs k f s) (hk : k < bs.length) (hbad : rd bs k ≤ f ∨ placeP l (rd bs k) = false ∨ legalP l f (rd bs k) = false) : demeritsP l a1 bs = (0, 1) := by
  have h1 := h.leg
  rw [rd_drop hk] at h1
  have h2 : legalB l (-1) bs = false := by
    rw [h1]
    simp only [legalB]
    rcases hbad with h | h | h
    · rw [decide_eq_false (by omega)]; rfl
    · rw [h]; simp
    · rw [h]; simp
  unfold demeritsP legalL
  rw [h2, if_neg (by simp)]
theorem legalB_last (l : List S43) : ∀ (bs : List Int) (f : Int), 0 < bs.length → legalB l f bs = true → rd bs ((bs.length : Int) - 1) = l.length := by
  intro bs f hp h
  have := ((legalB_iff l bs f).1 h).2
  rw [List.getLast?_eq_getElem?] at this
  unfold rd
  rw [List.getD_eq_getElem?_getD, show ((bs.length : Int) - 1).toNat = bs.length - 1 by omega]
  rw [List.getElem?_eq_getElem (by omega)] at this ⊢
  simpa using this
set_option maxRecDepth 100000 in
set_option maxHeartbeats 8000000 in
theorem best_Demerits.calls (A0 : Option Addr) (c0 : Nat) (l0 : List S43) (a1 : Int) (A2 : Option Addr) (c2 : Nat) (l2 : List Int) (r1 r2 : Int) (w : World) (hr0 : Kd.C k43 w A0 l0.length l0) (hc0 : l0.length ≤ c0) (hr2 : Kd.C (Kd.int .i64) w A2 l2.length l2) (hc2 : l2.length ≤ c2) (h : best_Demerits.f l0 a1 l2 = some (r1, r2)) :
    Calls Try.prog 21 #[.slice A0 l0.length c0, .int .i64 a1, .slice A2 l2.length c2] w fun e w' => e = .returned (.tuple #[.int .i64 r1, .int .i64 r2]) ∧ Below w.heap.size w w' := by
  unfold best_Demerits.f at h
  have hl : l0.length ≤ 1000000 ∧ l2.length ≤ 100000 := by
    by_cases hl : l0.length ≤ 1000000 ∧ l2.length ≤ 100000
    · exact hl
    · rw [if_neg hl] at h; cases h
  rw [if_pos hl] at h
  obtain ⟨hl, hl2⟩ := hl
  replace h := Option.some.inj h
  have hb := begin_flow A0 c0 l0 a1 w hl hr0
  have HB := Lib.hid hb
  have hck := fun W (hW : Below w.heap.size w W) => best_Check.calls A0 c0 l0 a1 _ W (Kd.C_below hr0 hW) hc0 rfl
  have HCK := Lib.hid hck
  obtain ⟨S, hS⟩ : ∃ S, sumsTo l0 l0.length = S := ⟨_, rfl⟩
  have hpl := fun a A2 c2 W (hc2 : S.length ≤ c2) (hW : Below w.heap.size w W) (hs : Kd.C k85 W A2 S.length S) => best_flow_place.calls A0 c0 l0 a1 A2 c2 S a _ W (Kd.C_below hr0 hW) hc0 hs hc2 (place_f l0 a1 S a)
  have hlg := fun a b A2 c2 W (hc2 : S.length ≤ c2) (hW : Below w.heap.size w W) (hs : Kd.C k85 W A2 S.length S) => best_flow_legal.calls A0 c0 l0 a1 A2 c2 S a b _ W (Kd.C_below hr0 hW) hc0 hs hc2 (legal_f l0 a1 S a b)
  have hdm := fun a b r A2 c2 W (hc2 : S.length ≤ c2) (hW : Below w.heap.size w W) (hs : Kd.C k85 W A2 S.length S) (hf : best_flow_demerits.f 2 l0 a1 S a b = some r) => best_flow_demerits.calls 2 A0 c0 l0 a1 A2 c2 S a b r W (Kd.C_below hr0 hW) hc0 hs hc2 hf
  rw [hS] at HB
  have HP := Lib.hid hpl
  have HL := Lib.hid hlg
  have HD := Lib.hid hdm
  have HR := Lib.hid hr0
  have HR2 := Lib.hid hr2
  have HC0 := Lib.hid hc0
  have H := Lib.hid h
  have HS := Lib.hid hS
  have hnl : (l0.length : Int) ≤ 1000000 := by omega
  obtain ⟨n, hn⟩ : ∃ n, l2.length = n := ⟨_, rfl⟩
  have hnl2 : (n : Int) ≤ 100000 := by omega
  rw [hn] at hl2 ⊢
  have HN := Lib.hid hn
  clear hb hr0 hc0 h hck hpl hlg hdm hS hr2 hc2 hn
  rcases check_01 l0 a1 with hk | hk
  · rw [hk] at HCK
    have HK := Lib.hid hk
    clear hk
    by_cases h0 : n = 0
    · subst h0
      obtain ⟨rfl, rfl⟩ : r1 = 0 ∧ r2 = 1 := by
        have := H.out
        rw [show demeritsP l0 a1 l2 = (0, 1) by unfold demeritsP legalL; rw [if_neg (by rw [HN.out]; simp)]] at this
        simp only [Prod.mk.injEq] at this
        omega
      clear H
      go_enter Try.func21, Try.ntmps21
      go_wp2_with fail
      refine HB.out.mono ?_
      rintro _ w1 ⟨A3, c3, rfl, hs, hc3, hb1⟩
      have hB2 : Below w.heap.size w (w1.alloc (.cells #[.slice A0 l0.length c0, .int .i64 a1, .slice A3 S.length c3] 67)) := below_alloc hb1 _
      have hX2 := blk_new w1 (.cells #[.slice A0 l0.length c0, .int .i64 a1, .slice A3 S.length c3] 67)
      have hS2 := Kd.C_alloc hs (.cells #[.slice A0 l0.length c0, .int .i64 a1, .slice A3 S.length c3] 67)
      go_wp2_with fail
      refine (HCK.out _ hB2).mono ?_
      rintro _ w2 ⟨rfl, hb⟩
      replace hX2 := blk_below hX2 hb
      replace hS2 := Kd.C_below hS2 hb
      replace hB2 := below_step hB2 hb
      have hgB : w.heap.size ≤ w1.heap.size := hb1.size
      clear hs hb hb1
      go_wp2
      go_ret2
      exact ⟨rfl, hB2⟩

    · have hpos : 0 < (n : Int) := by omega
      have hp1 : 1 ≤ (n : Int) := by omega
      have hn0 : ((n : Int) == 0) = false := beq_eq_false_iff_ne.2 (by omega)
      have hlast : ∀ W, Below w.heap.size w W → ∃ ad, A2 = some ad ∧ W.cell? (ad.add ((n : Int) - 1).toNat) = some (.int .i64 (rd l2 ((n : Int) - 1))) := fun W hW => Kd.at_int (Kd.C_below HR2.out hW) ((n : Int) - 1) (by omega) (by have := HN.out; omega)
      obtain ⟨x, hx⟩ : ∃ x, rd l2 ((n : Int) - 1) = x := ⟨_, rfl⟩
      rw [hx] at hlast
      obtain ⟨ad, rfl, _⟩ := hlast w (Below.refl _ _)
      have HLA : Hid (∀ W, Below w.heap.size w W → W.cell? (ad.add (n - 1)) = some (.int .i64 x)) := Lib.hid fun W hW => by
        obtain ⟨ad', e, hc⟩ := hlast W hW
        cases e
        rw [show ((n : Int) - 1).toNat = n - 1 by omega] at hc
        exact hc
      have HX := Lib.hid hx
      clear hx hlast
      by_cases hxl : x = l0.length
      · have g1 : (x == (l0.length : Int)) = true := beq_iff_eq.2 hxl
        have g2 : (x != (l0.length : Int)) = false := bne_eq_false_iff_eq.2 hxl
        have HXL := Lib.hid hxl
        clear hxl
        go_enter Try.func21, Try.ntmps21
        go_wp2_with fail
        refine HB.out.mono ?_
        rintro _ w1 ⟨A3, c3, rfl, hs, hc3, hb1⟩
        have hB2 : Below w.heap.size w (w1.alloc (.cells #[.slice A0 l0.length c0, .int .i64 a1, .slice A3 S.length c3] 67)) := below_alloc hb1 _
        have hX2 := blk_new w1 (.cells #[.slice A0 l0.length c0, .int .i64 a1, .slice A3 S.length c3] 67)
        have hS2 := Kd.C_alloc hs (.cells #[.slice A0 l0.length c0, .int .i64 a1, .slice A3 S.length c3] 67)
        go_wp2_with fail
        refine (HCK.out _ hB2).mono ?_
        rintro _ w2 ⟨rfl, hb⟩
        replace hX2 := blk_below hX2 hb
        replace hS2 := Kd.C_below hS2 hb
        replace hB2 := below_step hB2 hb
        have hgB : w.heap.size ≤ w1.heap.size := hb1.size
        clear hs hb hb1
        have hlc := HLA.out _ hB2
        go_wp2_with fail
        clear hlc
        go_loopw [38, 9, 10] (fun v s f wr => ∃ (k : Nat) (sum from_ : Int), DemInv l0 a1 l2 k from_ sum ∧ v = .int .i64 k ∧ s = .int .i64 sum ∧ f = .int .i64 from_ ∧ k ≤ n ∧ wr.heap[w1.heap.size]? = some (.cells #[.slice A0 l0.length c0, .int .i64 a1, .slice A3 S.length c3] 67 (0, 0)) ∧ Kd.C k85 wr A3 S.length S ∧ Below w.heap.size w wr) (fun v _ _ _ => n - (intOf v).toNat)
        case atStart => exact ⟨0, 0, -1, dem_start _ _ _, rfl, rfl, rfl, Nat.zero_le _, hX2, hS2, hB2⟩
        case round =>
          clear hX2 hS2 hB2
          obtain ⟨k, sum, from_, hJ, rfl, rfl, rfl, hk, hX2, hS2, hB2⟩ := hrel
          have j1 := hJ.f0
          have j2 := hJ.f1
          have j3 := hJ.s0
          have j4 := hJ.s1
          have HJ := Lib.hid hJ
          clear hJ
          by_cases hlt : k < n
          · have hlt1 : (k : Int) < (n : Int) := by omega
            have hkl : k < l2.length := by have := HN.out; omega
            obtain ⟨ad', e1, q0⟩ := Kd.at_int (Kd.C_below HR2.out hB2) k (by omega) (by omega)
            cases e1
            simp only [Int.toNat_natCast] at q0
            obtain ⟨b, hb0⟩ : ∃ b, rd l2 (k : Int) = b := ⟨_, rfl⟩
            rw [hb0] at q0
            have HBB := Lib.hid hb0
            clear hb0
            by_cases h1 : b ≤ from_
            · obtain ⟨rfl, rfl⟩ : r1 = 0 ∧ r2 = 1 := by
                have := H.out
                rw [dem_bad HJ.out hkl (.inl (by rw [HBB.out]; exact h1))] at this
                simp only [Prod.mk.injEq] at this
                omega
              clear H
              go_wp2
              go_ret2
              exact ⟨rfl, hB2⟩

            · have h1' : from_ < b := by omega
              obtain ⟨b2, e2⟩ : ∃ x, placeP l0 b = x := ⟨_, rfl⟩
              obtain ⟨b3, e3⟩ : ∃ x, legalP l0 from_ b = x := ⟨_, rfl⟩
              have hp2 := HP.out b
              have hp3 := HL.out from_ b
              rw [e2] at hp2
              rw [e3] at hp3
              have HP2 := Lib.hid hp2
              have HP3 := Lib.hid hp3
              have E2 := Lib.hid e2
              have E3 := Lib.hid e3
              clear hp2 hp3 e2 e3 hkl
              cases b2
              · obtain ⟨rfl, rfl⟩ : r1 = 0 ∧ r2 = 1 := by
                  have := H.out
                  rw [dem_bad HJ.out (by have := HN.out; omega) (.inr (.inl (by rw [HBB.out]; exact E2.out)))] at this
                  simp only [Prod.mk.injEq] at this
                  omega
                clear H
                obtain ⟨x0, x1, x2⟩ := flow_cells hX2
                have HX2 := Lib.hid hX2
                clear hX2
                go_wp2_with fail
                refine (HP2.out A3 c3 _ hc3 hB2 hS2).mono ?_
                rintro _ w3 ⟨rfl, hb⟩
                clear x0 x1 x2
                have hX2 := blk_below HX2.out hb
                replace hS2 := Kd.C_below hS2 hb
                replace hB2 := below_step hB2 hb
                clear hb HX2
                go_wp2
                go_ret2
                exact ⟨rfl, hB2⟩

              · cases b3
                · obtain ⟨rfl, rfl⟩ : r1 = 0 ∧ r2 = 1 := by
                    have := H.out
                    rw [dem_bad HJ.out (by have := HN.out; omega) (.inr (.inr (by rw [HBB.out]; exact E3.out)))] at this
                    simp only [Prod.mk.injEq] at this
                    omega
                  clear H
                  obtain ⟨x0, x1, x2⟩ := flow_cells hX2
                  have HX2 := Lib.hid hX2
                  clear hX2
                  go_wp2_with fail
                  refine (HP2.out A3 c3 _ hc3 hB2 hS2).mono ?_
                  rintro _ w3 ⟨rfl, hb⟩
                  clear x0 x1 x2
                  have hX2 := blk_below HX2.out hb
                  replace hS2 := Kd.C_below hS2 hb
                  replace hB2 := below_step hB2 hb
                  clear hb HX2
                  obtain ⟨x0, x1, x2⟩ := flow_cells hX2
                  have HX2 := Lib.hid hX2
                  clear hX2
                  go_wp2_with fail
                  refine (HP3.out A3 c3 _ hc3 hB2 hS2).mono ?_
                  rintro _ w4 ⟨rfl, hb⟩
                  clear x0 x1 x2
                  have hX2 := blk_below HX2.out hb
                  replace hS2 := Kd.C_below hS2 hb
                  replace hB2 := below_step hB2 hb
                  clear hb HX2
                  go_wp2
                  go_ret2
                  exact ⟨rfl, hB2⟩

                · have hp := place_le E2.out
                  have ok := check_ok HK.out
                  have hcb := costP_bd ok j1 h1' hp.2
                  have hcost := demerits_spec ok j1 h1' hp.2 0
                  have hnx := dem_next ok HJ.out (by have := HN.out; omega) (by rw [HBB.out]; exact h1') (by rw [HBB.out]; exact E2.out) (by rw [HBB.out]; exact E3.out)
                  rw [HBB.out] at hnx
                  rw [HS.out] at hcost
                  generalize costP l0 a1 from_ b = cc at *
                  have HNX := Lib.hid hnx
                  have HCO := Lib.hid hcost
                  clear hnx hcost ok
                  obtain ⟨x0, x1, x2⟩ := flow_cells hX2
                  have HX2 := Lib.hid hX2
                  clear hX2
                  go_wp2_with fail
                  refine (HP2.out A3 c3 _ hc3 hB2 hS2).mono ?_
                  rintro _ w3 ⟨rfl, hb⟩
                  clear x0 x1 x2
                  have hX2 := blk_below HX2.out hb
                  replace hS2 := Kd.C_below hS2 hb
                  replace hB2 := below_step hB2 hb
                  clear hb HX2
                  obtain ⟨x0, x1, x2⟩ := flow_cells hX2
                  have HX2 := Lib.hid hX2
                  clear hX2
                  go_wp2_with fail
                  refine (HP3.out A3 c3 _ hc3 hB2 hS2).mono ?_
                  rintro _ w4 ⟨rfl, hb⟩
                  clear x0 x1 x2
                  have hX2 := blk_below HX2.out hb
                  replace hS2 := Kd.C_below hS2 hb
                  replace hB2 := below_step hB2 hb
                  clear hb HX2
                  obtain ⟨x0, x1, x2⟩ := flow_cells hX2
                  have HX2 := Lib.hid hX2
                  clear hX2
                  go_wp2_with fail
                  refine (HD.out _ _ _ A3 c3 _ hc3 hB2 hS2 HCO.out).mono ?_
                  rintro _ w5 ⟨rfl, hb⟩
                  clear x0 x1 x2
                  have hX2 := blk_below HX2.out hb
                  replace hS2 := Kd.C_below hS2 hb
                  replace hB2 := below_step hB2 hb
                  clear hb HX2
                  go_wp2
                  go_roundw
                  case rel => exact ⟨k + 1, sum + cc, b, HNX.out, by go_num, rfl, rfl, by omega, hX2, hS2, hB2⟩
                  case measure => simp [intOf]; omega

          · obtain rfl : k = n := by omega
            have hlt1 : ¬ (k : Int) < (k : Int) := by omega
            obtain ⟨rfl, rfl⟩ : r1 = sum ∧ r2 = 0 := by
              have h5 := HJ.out
              have h6 := HX.out
              rw [← HN.out] at h5 h6
              have := dem_end h5 (by have := HN.out; omega) (by rw [h6]; exact HXL.out) HK.out
              rw [H.out] at this
              simpa using this
            go_wp2
            go_ret2
            exact ⟨rfl, hB2⟩

      · have g1 : (x == (l0.length : Int)) = false := beq_eq_false_iff_ne.2 hxl
        have g2 : (x != (l0.length : Int)) = true := bne_iff_ne.2 hxl
        have HXL := Lib.hid hxl
        clear hxl
        obtain ⟨rfl, rfl⟩ : r1 = 0 ∧ r2 = 1 := by
          have := H.out
          rw [show demeritsP l0 a1 l2 = (0, 1) by
            unfold demeritsP legalL
            rw [if_neg]
            rintro ⟨_, h⟩
            simp only [Bool.and_eq_true, decide_eq_true_eq] at h
            have := legalB_last l0 l2 _ h.1 h.2
            rw [HN.out, HX.out] at this
            exact HXL.out this] at this
          simp only [Prod.mk.injEq] at this
          omega
        clear H
        go_enter Try.func21, Try.ntmps21
        go_wp2_with fail
        refine HB.out.mono ?_
        rintro _ w1 ⟨A3, c3, rfl, hs, hc3, hb1⟩
        have hB2 : Below w.heap.size w (w1.alloc (.cells #[.slice A0 l0.length c0, .int .i64 a1, .slice A3 S.length c3] 67)) := below_alloc hb1 _
        have hX2 := blk_new w1 (.cells #[.slice A0 l0.length c0, .int .i64 a1, .slice A3 S.length c3] 67)
        have hS2 := Kd.C_alloc hs (.cells #[.slice A0 l0.length c0, .int .i64 a1, .slice A3 S.length c3] 67)
        go_wp2_with fail
        refine (HCK.out _ hB2).mono ?_
        rintro _ w2 ⟨rfl, hb⟩
        replace hX2 := blk_below hX2 hb
        replace hS2 := Kd.C_below hS2 hb
        replace hB2 := below_step hB2 hb
        have hgB : w.heap.size ≤ w1.heap.size := hb1.size
        clear hs hb hb1
        have hlc := HLA.out _ hB2
        go_wp2
        go_ret2
        exact ⟨rfl, hB2⟩

  · rw [hk] at HCK
    obtain ⟨rfl, rfl⟩ : r1 = 0 ∧ r2 = 1 := by
      have := H.out
      rw [show demeritsP l0 a1 l2 = (0, 1) by unfold demeritsP; rw [if_neg (by rw [hk]; rintro ⟨h, _⟩; cases h)]] at this
      simp only [Prod.mk.injEq] at this
      omega
    clear H
    clear hk
    go_enter Try.func21, Try.ntmps21
    go_wp2_with fail
    refine HB.out.mono ?_
    rintro _ w1 ⟨A3, c3, rfl, hs, hc3, hb1⟩
    have hB2 : Below w.heap.size w (w1.alloc (.cells #[.slice A0 l0.length c0, .int .i64 a1, .slice A3 S.length c3] 67)) := below_alloc hb1 _
    have hX2 := blk_new w1 (.cells #[.slice A0 l0.length c0, .int .i64 a1, .slice A3 S.length c3] 67)
    have hS2 := Kd.C_alloc hs (.cells #[.slice A0 l0.length c0, .int .i64 a1, .slice A3 S.length c3] 67)
    go_wp2_with fail
    refine (HCK.out _ hB2).mono ?_
    rintro _ w2 ⟨rfl, hb⟩
    replace hX2 := blk_below hX2 hb
    replace hS2 := Kd.C_below hS2 hb
    replace hB2 := below_step hB2 hb
    have hgB : w.heap.size ≤ w1.heap.size := hb1.size
    clear hs hb hb1
    go_wp2
    go_ret2
    exact ⟨rfl, hB2⟩

end Go.Proofs.Ytbddfnmhhmkfkaa.Pr
/- best.flow.places: an iterator, walked by hand. -/
namespace Go.Proofs.Ytbddfnmhhmkfkaa.Pr
set_option linter.unusedVariables false
set_option linter.unusedSimpArgs false
open Go.RowKit Go.Shelf Go.Proofs.YtbddfnmhhmkfkaaW.PrintWords
attribute [local go_sem] Oper.semAt_some

set_option maxHeartbeats 400000 in
theorem places_in (A : Option Addr) (m c : Nat) (wd : Int) (A2 : Option Addr) (m2 c2 : Nat) (n : Nat) (w : World) :
    CallsIn Fence.wide n Try.prog 44 #[.agg #[.slice A m c, .int .i64 wd, .slice A2 m2 c2]] w fun e w' => e = .returned (.func (.func 74) #[] #[.pointer (some ⟨w.heap.size, 0, none⟩)]) ∧ w' = w.alloc (.cells #[.slice A m c, .int .i64 wd, .slice A2 m2 c2] 67) := by
  refine callsIn_of_wp Try.func44 rfl trivial ?_ rfl
  simp only [Try.ntmps44, List.size_toArray, List.length_cons, List.length_nil, Nat.reduceAdd, Nat.reduceSub, Array.replicate_succ, Array.replicate_zero, List.push_toArray, List.append_toArray, List.nil_append, List.cons_append]
  gi_wp2
  go_ret
  exact ⟨rfl, rfl⟩
/-- what a round keeps: all below a place, and the flow's own box -/
def PK (nF gb : Nat) (W W' : World) : Prop := Below nF W W' ∧ W'.heap[gb]? = W.heap[gb]?
theorem PK_t {nF gb : Nat} {X Y Z : World} (h : PK nF gb X Y) (k : PK nF gb Y Z) : PK nF gb X Z := ⟨h.1.trans k.1, k.2.trans h.2⟩
theorem PK_b {nF gb : Nat} {w : World} (h1 : nF ≤ w.heap.size) (h2 : gb < w.heap.size) (W : World) (l : Nat) (o o' : Obj) (hl : w.heap.size ≤ l) (h : W.heap[l]? = some o) (hc : o.isCells = false) (hw : o.isWalk = false) : PK nF gb W (W.putObj l o') :=
  ⟨belowK_b h1 W l o o' hl h hc hw, World.putObj_heap_other (by omega)⟩

set_option maxRecDepth 100000 in
set_option maxHeartbeats 2000000 in
theorem places_hands (n : Nat) (hn : 1 ≤ n) (l : List S43) (hl : l.length ≤ 1000000) (wd : Int) (A : Option Addr) (c : Nat) (A2 : Option Addr) (S : List S85) (c2 : Nat) (nF gb : Nat) (wF w : World) (hc : l.length ≤ c) (hc2 : S.length ≤ c2)
    (hC : ∀ W, Below nF wF W → Kd.C k43 W A l.length l ∧ Kd.C k85 W A2 S.length S) (hB : Below nF wF w) (hnF : nF ≤ w.heap.size)
    (hb : w.heap[gb]? = some (.cells #[.slice A l.length c, .int .i64 wd, .slice A2 S.length c2] 67 (0, 0))) :
    Go.Next.Hands Fence.wide n Try.prog 74 #[.pointer (some ⟨gb, 0, none⟩)] (fun x : Int => #[.int .i64 x]) (PK nF gb) (placesTo l (l.length + 1)) w := by
  intro lr J W hW hJ hY h0
  have HC := Lib.hid hC
  have hb1 := blk_below hb hW
  have hB1 : Below nF wF W := hB.trans (hW.mono hnF)
  have hsz : nF ≤ W.heap.size := Nat.le_trans hnF hW.size
  clear hC hb hB hW
  refine callsIn_of_wp Try.func74 rfl trivial ?_ rfl
  simp only [Try.ntmps74, List.size_toArray, List.length_cons, List.length_nil, Nat.reduceAdd, Nat.reduceSub, Array.replicate_succ, Array.replicate_zero, List.push_toArray, List.append_toArray, List.nil_append, List.cons_append]
  have hnl : (l.length : Int) ≤ 1000000 := by omega
  have HL := Lib.hid hl
  obtain ⟨m, hm⟩ : ∃ m, l.length = m := ⟨_, rfl⟩
  rw [hm] at hb1 hnl hY ⊢
  have HM := Lib.hid hm
  clear hm hl
  obtain ⟨x0, x1, x2⟩ := flow_cells hb1
  have HB1 := Lib.hid hb1
  clear hb1
  gi_wp2
  clear x0 x1 x2
  gi_loopw [8] (fun i wr => ∃ k : Nat, k ≤ m + 1 ∧ i = .int .i64 k ∧ J (placesTo l k) wr ∧ Below nF wF wr ∧ W.heap.size ≤ wr.heap.size ∧ wr.heap[gb]? = some (.cells #[.slice A m c, .int .i64 wd, .slice A2 S.length c2] 67 (0, 0)))
    (fun i _ => m + 1 - (intOf i).toNat)
  case atStart => exact ⟨0, Nat.zero_le _, rfl, h0, hB1, Nat.le_refl _, HB1.out⟩
  case round =>
    clear h0 hB1
    obtain ⟨k, hk, rfl, hJk, hBk, hsk, hbk⟩ := hrel
    by_cases hlt : k < m + 1
    · have hlt1 : (k : Int) < (m : Int) + 1 := by omega
      obtain ⟨b, hpb⟩ : ∃ b, placeP l (k : Int) = b := ⟨_, rfl⟩
      have hcall := best_flow_place.calls A c l wd A2 c2 S (k : Int) _ wr (HC.out wr hBk).1 (by have := HM.out; omega) (HC.out wr hBk).2 hc2 (place_f l wd S k)
      rw [hpb, HM.out] at hcall
      have HPB := Lib.hid hpb
      have HCL := Lib.hid hcall
      clear hpb hcall
      obtain ⟨x0, x1, x2⟩ := flow_cells hbk
      have HBK := Lib.hid hbk
      clear hbk
      gi_wp2_with fail
      refine ⟨trivial, (callsIn_wide.2 HCL.out).mono ?_⟩
      rintro e w2 ⟨rfl, hb2⟩
      clear x0 x1 x2 HCL
      have hB2 : Below nF wF w2 := hBk.trans (hb2.mono (by omega))
      have hJ2 : J (placesTo l k) w2 := hJ _ _ _ none hJk (grown_of_below hb2 none) (by simp)
      have hs2 : W.heap.size ≤ w2.heap.size := Nat.le_trans hsk hb2.size
      have hbk2 := blk_below HBK.out hb2
      have hstep := placesTo_succ l k
      rw [HPB.out] at hstep
      have HST := Lib.hid hstep
      clear hb2 hJk hBk hsk hstep
      cases b
      · gi_wp2_with fail
        refine ⟨fun _ h => (by cases h), ?_⟩
        gi_wp2
        go_roundw
        case rel => exact ⟨k + 1, by omega, by go_num, by rw [HST.out]; simpa using hJ2, hB2, hs2, hbk2⟩
        case measure => simp [intOf]; omega
      · obtain ⟨suf, hsuf⟩ := placesTo_split l (k + 1) (m + 1 - (k + 1))
        rw [show k + 1 + (m + 1 - (k + 1)) = m + 1 by omega, HST.out] at hsuf
        obtain ⟨fn, tmps, assign, body, hy, hR⟩ := hY (placesTo l k) k suf w2 (by rw [hsuf]; simp) hJ2
        have HSF := Lib.hid hsuf
        clear hsuf
        gi_wp2
        refine hR.mono ?_
        rintro e W3 ⟨rfl, hJ3, hk3⟩
        gi_wp2
        go_roundw
        case rel => exact ⟨k + 1, by omega, by go_num, by rw [HST.out]; exact hJ3, hB2.trans hk3.1, Nat.le_trans hs2 hk3.1.size, hk3.2.trans hbk2⟩
        case measure => simp [intOf]; omega
    · obtain rfl : k = m + 1 := by omega
      have hlt1 : ¬ (((m + 1 : Nat) : Int) < (m : Int) + 1) := by omega
      gi_wp2
      go_end0
      exact ⟨⟨_, rfl⟩, hJk⟩
end Go.Proofs.Ytbddfnmhhmkfkaa.Pr
/- The law for regions that draw their order, in the rounds of a range over a function. -/
namespace Go.DetIn
open Go Go.Det
set_option linter.unusedVariables false
variable {F : Fence} {n : Nat} {P : Program} {ops : Array Oper} {Q : Exit → Act → World → Prop} {S : World → Prop}
/-- a fence that lets all in -/
structure Wide (F : Fence) : Prop where
  fn : ∀ f, F.fn f
  room : ∀ k, F.room k
theorem wide_round (l : Nat) : Wide (Fence.wide.inRound l) := ⟨fun _ => trivial, fun _ => room_wide _⟩
def noDefer (ops : Array Oper) : Bool := ops.all fun o => match o.op with | .defer _ => false | _ => true
def NoDefer (ops : Array Oper) : Prop := ∀ (i : Nat) (o : Oper), ops[i]? = some o → ∀ c, o.op ≠ .defer c
theorem noDefer_spec (h : noDefer ops = true) : NoDefer ops := fun i o hi c hc => by
  obtain ⟨hlt, rfl⟩ := Array.getElem?_eq_some_iff.1 hi
  have := (Array.all_eq_true_iff_forall_mem.1 h) _ (Array.getElem_mem hlt)
  simp [hc] at this
theorem upon_imp {o : Oper} {a : Act} {K K' : Act → World → Prop} {r : Result Next} (h : ∀ a w, K a w → K' a w) (hh : o.uponIn F n P a K NoOut r) : o.uponIn F n P a K' Q r := by
  cases r with
  | ok nx w' =>
    cases nx <;> simp only [Oper.uponIn] at hh ⊢ <;>
      first
        | exact h _ _ hh
        | exact ⟨hh.1, CallsIn.mono hh.2 (fun e w'' he => by cases e <;> first | exact h _ _ he | exact he.elim | exact (noOut_lets he).elim)⟩
        | exact ⟨hh.1, RowsIn.mono hh.2 (fun _ _ he => h _ _ he)⟩
        | exact ⟨hh.1, RoundIn.mono hh.2 (fun e w'' he => by cases e <;> first | exact h _ _ he | exact he.elim | exact (noOut_lets he).elim)⟩
  | halt x w' => cases x <;> simp only [Oper.uponIn] at hh ⊢ <;> exact hh.elim
theorem upon_same {o : Oper} {x y : Act} {v : Value} {r : Result Next} (hs : y.tmps.size = x.tmps.size) (hh : o.uponIn F n P x (fun a' w' => a' = x.put o.dst v ∧ S w') NoOut r) :
    o.uponIn F n P y (fun a' w' => a' = y.put o.dst v ∧ S w') NoOut r := by
  cases r with
  | ok nx w' =>
    cases nx <;> simp only [Oper.uponIn] at hh ⊢ <;>
      first
        | exact ⟨put_inj hs hh.1, hh.2⟩
        | exact ⟨hh.1, CallsIn.mono hh.2 (fun e w'' he => by cases e <;> first | exact ⟨put_inj hs he.1, he.2⟩ | exact he.elim | exact (noOut_lets he).elim)⟩
        | exact ⟨hh.1, RowsIn.mono hh.2 (fun _ _ he => ⟨put_inj hs he.1, he.2⟩)⟩
        | exact ⟨hh.1, RoundIn.mono hh.2 (fun e w'' he => by cases e <;> first | exact ⟨put_inj hs he.1, he.2⟩ | exact he.elim | exact (noOut_lets he).elim)⟩
        | skip
    rename_i d
    exfalso
    have := congrArg (fun a : Act => a.defers.length) hh.1
    cases hd : o.dst <;> simp [hd, Act.put] at this
  | halt x w' => cases x <;> simp only [Oper.uponIn] at hh ⊢ <;> exact hh.elim

/-- an operation's step at a frame: carried out, it yields 'v' from every world that meets S, and S holds behind it; or it is not wanted -/
def StepV (F : Fence) (n : Nat) (P : Program) (ops : Array Oper) (S : World → Prop) (a : Act) (o : Oper) (v : Value) : Prop :=
  (Region.wanted o (yielded ops a.tmps) = true ∧ ∀ w, S w → o.wpIn F n P a w (fun a' w' => a' = a.put o.dst v ∧ S w') NoOut) ∨
  (Region.wanted o (yielded ops a.tmps) = false ∧ v = undef)
/-- the operations one behind the other, in the text's order -/
def SeqL (F : Fence) (n : Nat) (P : Program) (ops : Array Oper) (S : World → Prop) (R : Act → Prop) : List Oper → Act → Prop
  | [], a => R a
  | o :: rest, a => ∃ v, StepV F n P ops S a o v ∧ SeqL F n P ops S R rest (a.put o.dst v)

theorem step_same (W : Wide F) (nd : NoDefer ops) (ok : Ok ops) {val : Nat → Value} {a x y : Act} {L L' : Nat → Bool} {i : Nat} {o : Oper} {v : Value} (hi : ops[i]? = some o) (hx : Fr ops val a L x) (hy : Fr ops val a L' y)
    (h : ∀ j oj t, ops[j]? = some oj → oj.dst = some t → t ∈ o.looksAt ops → L j = L' j) (hs : StepV F n P ops S x o v) : StepV F n P ops S y o v := by
  have hev : execOp y.eval o = execOp x.eval o := execOp_congr o (ok.plain i o hi) fun z hz => by
    cases z with
    | tmp t =>
      have := fr_same hx hy t fun j oj hj hd => h j oj t hj hd (List.mem_append_left _ (List.mem_filterMap.2 ⟨.tmp t, by simpa using hz, rfl⟩))
      simp [Act.eval, Array.getD_eq_getD_getElem?, this]
    | _ => rfl
  have hw : Region.wanted o (yielded ops y.tmps) = Region.wanted o (yielded ops x.tmps) := by
    unfold Region.wanted
    cases hg : o.guard with
    | none => rfl
    | some gw =>
      obtain ⟨g, want⟩ := gw
      have : yielded ops y.tmps g = yielded ops x.tmps g := by
        unfold yielded
        cases ht : (ops[g]?).bind (·.dst) with
        | none => rfl
        | some t =>
          have := fr_same hx hy t fun j oj hj hd => h j oj t hj hd (by simp [Oper.looksAt, hg, ht])
          simp [this]
      simp only [this]
  have hsz : y.tmps.size = x.tmps.size := by rw [hx.2.1, hy.2.1]
  rcases hs with ⟨h1, h2⟩ | h1
  · refine .inl ⟨by rw [hw]; exact h1, fun w hS => ?_⟩
    have := (h2 w hS).2
    rw [Oper.semAt_eq _ _ _ (nd i o hi)] at this
    refine ⟨fun f _ => W.fn f, ?_⟩
    rw [Oper.semAt_eq _ _ _ (nd i o hi), hev]
    exact upon_same hsz this
  · exact .inr (by rw [hw]; exact h1)

theorem any_tail (ok : Ok ops) {k : Nat} (ht : tailOk ops k = true) : ∀ (fuel m : Nat) (listed : Array Bool) (a : Act) (w : World), listed.size = ops.size → (∀ i, i < ops.size → listed.getD i false = decide (i < m)) →
    k ≤ m → m ≤ ops.size → ops.size ≤ fuel + m → wpListIn F n P ops Q (ops.toList.drop m) a w → wpAnyIn F n P .any ops Q fuel listed a w := by
  intro fuel
  induction fuel with
  | zero =>
    intro m listed a w hsz hL hk hm hf h
    obtain rfl : m = ops.size := by omega
    rw [List.drop_eq_nil_of_le (by simp)] at h
    refine ⟨?_, h⟩
    rw [List.eq_nil_iff_forall_not_mem]
    intro i hi
    have hi' := ready_lt hi
    have := ((ready_iff hsz (Array.getElem?_eq_getElem hi')).1 hi).1
    rw [hL i hi'] at this
    simp at this
    omega
  | succ fuel ih =>
    intro m listed a w hsz hL hk hm hf h
    refine ⟨fun hr => ?_, fun i hi => ?_⟩
    · have hms : m = ops.size := by
        rcases Nat.lt_or_ge m ops.size with h1 | h1
        · have := least_ready ok hsz hr m h1
          rw [hL m h1] at this
          simp at this
        · omega
      subst hms
      rw [List.drop_eq_nil_of_le (by simp)] at h
      exact h
    · have hi' := ready_lt hi
      obtain ⟨h1, h2⟩ := (ready_iff hsz (Array.getElem?_eq_getElem hi')).1 hi
      rw [hL i hi'] at h1
      have hmi : m ≤ i := by simpa using h1
      have him : i = m := by
        rcases Nat.lt_or_ge m i with h3 | h3
        · exfalso
          have hw := tail_waits ht hi' (by omega) h3
          have hcl : ∀ (j : Nat) (o : Oper), ops[j]? = some o → listed.getD j false = true → ∀ e ∈ o.after, Region.binds .any e = true → listed.getD e.on false = true := fun j o hj hl e he _ => by
            have hb := ok.back j o hj e he
            have hj' := lt_of_some hj
            rw [hL j hj'] at hl
            rw [hL e.on (by omega)]
            simp at hl ⊢
            omega
          have := waits_listed hcl ops.size i m (fun o ho e he hb => by
            rw [Array.getElem?_eq_getElem hi'] at ho
            cases ho
            exact h2 e he hb) hw
          rw [hL m (by omega)] at this
          simp at this
        · omega
      subst him
      have ho : ops[i]? = some ops[i] := Array.getElem?_eq_getElem hi'
      rw [drop_cons ho] at h
      have hnext : ∀ a w, wpListIn F n P ops Q (ops.toList.drop (i + 1)) a w → wpAnyIn F n P .any ops Q fuel (listed.setIfInBounds i true) a w := fun a w h' =>
        ih (i + 1) _ a w (by simpa using hsz) (fun j hj => by
          rw [set_getD (by omega), hL j hj, Bool.eq_iff_iff]; simp; omega) (by omega) (by omega) (by omega) h'
      unfold wpOpIn
      rw [ho]
      simp only
      unfold wpListIn at h
      split
      · rename_i hw
        rw [if_pos hw] at h
        exact Oper.wpIn_mono hnext h
      · rename_i hw
        rw [if_neg hw] at h
        exact ⟨h.1, hnext _ _ h.2⟩

theorem any_det (W : Wide F) (nd : NoDefer ops) (ok : Ok ops) {k : Nat} (hkn : k ≤ ops.size) (ht : tailOk ops k = true) {val : Nat → Value} {a0 : Act} (hsteps : ∀ i o, i < k → ops[i]? = some o → ∃ x, Fr ops val a0 (fun j => decide (j < i)) x ∧ StepV F n P ops S x o (val i))
    (hend : ∀ x, Fr ops val a0 (fun j => decide (j < k)) x → ∀ w, S w → wpListIn F n P ops Q (ops.toList.drop k) x w) : ∀ (fuel : Nat) (listed : Array Bool) (a : Act) (w : World), listed.size = ops.size →
    cnt (fun i => listed.getD i false) ops.size ≤ fuel → (∀ i o, ops[i]? = some o → listed.getD i false = true → ∀ e ∈ o.after, Region.binds .any e = true → listed.getD e.on false = true) →
    (∀ i, i < ops.size → listed.getD i false = true → i < k) →
    Fr ops val a0 (fun i => listed.getD i false) a → S w → wpAnyIn F n P .any ops Q fuel listed a w := by
  intro fuel
  induction fuel with
  | zero =>
    intro listed a w hsz hc hcl hlk hf hS
    have hall := cnt_zero _ _ (Nat.le_zero.1 hc)
    have hks : k = ops.size := by
      rcases Nat.lt_or_ge k ops.size with h | h
      · have := hlk k h (hall k h); omega
      · omega
    refine any_tail ok ht 0 k listed a w hsz (fun i hi => by rw [hall i hi]; simp; omega) (Nat.le_refl _) hkn (by omega) (hend a (fr_congr hf (fun j hj => ?_) (fun _ _ => rfl)) w hS)
    rw [hall j hj]; simp; omega
  | succ fuel ih =>
    intro listed a w hsz hc hcl hlk hf hS
    by_cases hdone : ∀ i, i < k → listed.getD i false = true
    · have hL : ∀ i, i < ops.size → listed.getD i false = decide (i < k) := fun i hi => by
        by_cases hik : i < k
        · rw [hdone i hik]; simp [hik]
        · have : listed.getD i false ≠ true := fun h => hik (hlk i hi h)
          simp only [Bool.not_eq_true] at this
          rw [this]; simp [hik]
      have hcnt : ops.size ≤ cnt (fun i => listed.getD i false) ops.size + k := by
        have : ∀ n, n ≤ ops.size → n ≤ cnt (fun i => listed.getD i false) n + k := fun n => by
          induction n with
          | zero => intro _; omega
          | succ n ihn =>
            intro hn
            simp only [cnt]
            have := ihn (by omega)
            have hLn := hL n (by omega)
            by_cases hnk : n < k
            · split <;> omega
            · rw [if_neg (by rw [hLn]; simp [hnk])]
              omega
        exact this _ (Nat.le_refl _)
      exact any_tail ok ht (fuel + 1) k listed a w hsz hL (Nat.le_refl _) hkn (by omega) (hend a (fr_congr hf (fun j hj => (hL j hj).symm) (fun _ _ => rfl)) w hS)
    refine ⟨fun hr => absurd (fun i hi => least_ready ok hsz hr i (by omega)) hdone, fun i hi => ?_⟩
    have hin : i < ops.size := ready_lt hi
    have hil : i < listed.size := by omega
    obtain ⟨o, ho⟩ : ∃ o, ops[i]? = some o := ⟨_, Array.getElem?_eq_getElem hin⟩
    obtain ⟨hlf, hdeps⟩ := (ready_iff hsz ho).1 hi
    have hik : i < k := by
      rcases Nat.lt_or_ge i k with h | h
      · exact h
      · exfalso
        refine hdone fun j hj => ?_
        have hw := tail_waits ht hin h (show j < i by omega)
        exact waits_listed hcl ops.size i j (fun o' ho' e he hb => by
          rw [ho] at ho'
          cases ho'
          exact hdeps e he hb) hw
    have hset : ∀ j, (listed.setIfInBounds i true).getD j false = (listed.getD j false || j == i) := fun j => set_getD hil j
    obtain ⟨x, hfx, hsx⟩ := hsteps i o hik ho
    have hst : StepV F n P ops S a o (val i) := step_same W nd ok ho hfx hf (fun j oj t hj hd ht => by
      rcases ok.reads i o j oj t ho hj hd ht with ⟨e, he, hb, rfl⟩ | ⟨hne, e, he, hb, hei⟩
      · rw [hdeps e he hb]
        simpa using ok.back i o ho e he
      · have hlt : i < j := hei ▸ ok.back j oj hj e he
        have : listed.getD j false = false := by
          cases hlj : listed.getD j false with
          | false => rfl
          | true =>
            have := hcl j oj hj hlj e he hb
            rw [hei, hlf] at this
            cases this
        rw [this]
        simp; omega) hsx
    have hnext : ∀ w', S w' → wpAnyIn F n P .any ops Q fuel (listed.setIfInBounds i true) (a.put o.dst (val i)) w' := fun w' hS' => by
      refine ih _ _ _ (by simpa using hsz) ?_ ?_ ?_ ?_ hS'
      · have := (cnt_set (fun j => listed.getD j false) (fun j => (listed.setIfInBounds i true).getD j false) i hlf hset ops.size).1 hin
        omega
      · intro j oj hj hlj e he hb
        rw [hset] at hlj ⊢
        rcases Bool.or_eq_true .. ▸ hlj with h | h
        · rw [hcl j oj hj h e he hb]; rfl
        · have : j = i := by simpa using h
          subst this
          rw [ho] at hj
          cases hj
          rw [hdeps e he hb]; rfl
      · intro j hj hlj
        rw [hset] at hlj
        rcases Bool.or_eq_true .. ▸ hlj with h | h
        · exact hlk j hj h
        · have : j = i := by simpa using h
          omega
      · exact fr_put ok ho hf fun j _ => hset j
    unfold wpOpIn
    rw [ho]
    simp only
    rcases hst with ⟨hw, hrun⟩ | ⟨hw, hv⟩
    · rw [if_pos hw]
      refine ⟨fun f _ => W.fn f, ?_⟩
      exact upon_imp (fun a' w' ⟨ha', hS'⟩ => ha' ▸ hnext w' hS') (hrun w hS).2
    · rw [if_neg (by rw [hw]; simp)]
      rw [← hv]
      exact ⟨fun f _ => W.fn f, hnext w hS⟩

/-- one operation behind the other, each over every world that meets S -/
def SeqW (F : Fence) (n : Nat) (P : Program) (ops : Array Oper) (S : World → Prop) (d : List Deferred) (R : Array Value → Prop) : List Oper → Array Value → Prop
  | [], t => R t
  | o :: rest, t => ∃ t' : Array Value, (∀ w, S w → wpListIn F n P ops (fun e a' w' => e = .normal ∧ a' = { tmps := t', defers := d } ∧ S w') [o] { tmps := t, defers := d } w) ∧ SeqW F n P ops S d R rest t'
theorem upon_some (W : Wide F) {o : Oper} {t T : Array Value} {d : List Deferred} {r : Result Next} (h : o.uponIn F n P { tmps := t, defers := d } (fun a' w' => a' = { tmps := T, defers := d } ∧ S w') NoOut r) :
    ({ tmps := T, defers := d } : Act) = ({ tmps := t, defers := d } : Act).put o.dst (putVal o.dst T) := by
  cases r with
  | ok nx w' =>
    cases nx <;> simp only [Oper.uponIn] at h <;>
      first
        | exact put_putVal h.1
        | (obtain ⟨e, w'', fr, he, _⟩ := h.2.2 [] (W.room _)
           cases e <;> first | exact put_putVal he.1 | exact he.elim | exact (noOut_lets he).elim)
        | (obtain ⟨v, w'', hv, _⟩ := h.2 (Frame.enter P 0 #[] .normal) [] (W.room _)
           exact put_putVal hv.1)
        | (obtain ⟨e, w'', he, _⟩ := h.2.2 (Frame.enter P 0 #[] .normal) [] (W.room _)
           cases e <;> first | exact put_putVal he.1 | exact he.elim | exact (noOut_lets he).elim)
        | skip
    rename_i x
    exfalso
    have := congrArg (fun a : Act => a.defers.length) h.1
    cases hd : o.dst <;> simp [hd, Act.put] at this
  | halt x w' => cases x <;> simp only [Oper.uponIn] at h <;> exact h.elim
theorem wpList_one {o : Oper} {t T : Array Value} {d : List Deferred} {w : World} (h : wpListIn F n P ops (fun e a' w' => e = .normal ∧ a' = { tmps := T, defers := d } ∧ S w') [o] { tmps := t, defers := d } w) :
    (Region.wanted o (yielded ops t) = true ∧ o.wpIn F n P { tmps := t, defers := d } w (fun a' w' => a' = { tmps := T, defers := d } ∧ S w') NoOut) ∨
    (Region.wanted o (yielded ops t) = false ∧ ({ tmps := t, defers := d } : Act).put o.dst undef = { tmps := T, defers := d }) := by
  unfold wpListIn at h
  split at h
  · rename_i hw
    refine .inl ⟨hw, h.1, ?_⟩
    have h2 := h.2
    generalize (Oper.semAt F.round ({ tmps := t, defers := d } : Act).eval o).run P w = r at h2
    have hlets : ¬ LetsOut (fun (e : Exit) (a' : Act) (w' : World) => e = .normal ∧ a' = { tmps := T, defers := d } ∧ S w') := by
      rintro ⟨_, _, h1, _⟩
      exact absurd h1 (by simp)
    cases r with
    | ok nx w' =>
      cases nx <;> simp only [Oper.uponIn, wpListIn] at h2 ⊢ <;>
        first
          | exact h2.2
          | exact ⟨h2.1, CallsIn.mono h2.2 (fun e w'' he => by cases e <;> first | exact he.2 | exact absurd he.1 (by simp) | exact absurd he hlets)⟩
          | exact ⟨h2.1, RowsIn.mono h2.2 (fun _ _ he => he.2)⟩
          | exact ⟨h2.1, RoundIn.mono h2.2 (fun e w'' he => by cases e <;> first | exact he.2 | exact absurd he.1 (by simp) | exact absurd he hlets)⟩
    | halt x w' => cases x <;> simp only [Oper.uponIn] at h2 ⊢ <;> first | exact h2.elim | exact absurd h2.1 (by simp)
  · rename_i hw
    simp only [wpListIn] at h
    exact .inr ⟨by simpa using hw, h.2.2.1⟩
theorem seqL_of_W (W : Wide F) {d : List Deferred} {R : Array Value → Prop} {w0 : World} (h0 : S w0) : ∀ (l : List Oper) (t : Array Value), SeqW F n P ops S d R l t → SeqL F n P ops S (fun a => ∃ t, a = { tmps := t, defers := d } ∧ R t) l { tmps := t, defers := d }
  | [], t, h => ⟨t, rfl, h⟩
  | o :: rest, t, h => by
    obtain ⟨T, hT, hr⟩ := h
    have hr' := seqL_of_W W h0 rest T hr
    have h1 := wpList_one (hT w0 h0)
    cases hw : Region.wanted o (yielded ops t) with
    | true =>
      rw [hw] at h1
      rcases h1 with ⟨_, h1⟩ | ⟨h1, _⟩
      · have e := upon_some W h1.2
        refine ⟨putVal o.dst T, .inl ⟨hw, fun w hS => ?_⟩, e ▸ hr'⟩
        rcases wpList_one (hT w hS) with ⟨_, h2⟩ | ⟨h2, _⟩
        · rw [e] at h2; exact h2
        · rw [hw] at h2; cases h2
      · cases h1
    | false =>
      rw [hw] at h1
      rcases h1 with ⟨h1, _⟩ | ⟨_, h1⟩
      · cases h1
      · exact ⟨undef, .inr ⟨hw, rfl⟩, h1 ▸ hr'⟩

theorem seqL_split : ∀ (l l' : List Oper) (R : Act → Prop) (a : Act), SeqL F n P ops S (fun x => SeqL F n P ops S R l' x) l a → SeqL F n P ops S R (l ++ l') a
  | [], l', R, a, h => h
  | o :: l, l', R, a, h => by
    obtain ⟨v, h1, h2⟩ := h
    exact ⟨v, h1, seqL_split l l' R _ h2⟩

/-- the first operations, in the text's order -/
theorem seq_split (ok : Ok ops) {a0 : Act} {R : Act → Prop} : ∀ (l : List Oper) (i : Nat) (val0 : Nat → Value) (a : Act), (∀ j o, l[j]? = some o → ops[i + j]? = some o) → Fr ops val0 a0 (fun j => decide (j < i)) a → SeqL F n P ops S R l a →
    ∃ val : Nat → Value, (∀ j, j < i → val j = val0 j) ∧ (∀ k o, i ≤ k → k < i + l.length → ops[k]? = some o → ∃ x, Fr ops val a0 (fun j => decide (j < k)) x ∧ StepV F n P ops S x o (val k)) ∧
      ∃ x, Fr ops val a0 (fun j => decide (j < i + l.length)) x ∧ R x
  | [], i, val0, a, hl, hf, h => ⟨val0, fun _ _ => rfl, fun k o hk ho => absurd ho (by simp; omega), a, hf, h⟩
  | o :: rest, i, val0, a, hl, hf, h => by
    obtain ⟨v, hs, hrest⟩ := h
    have hi : ops[i]? = some o := hl 0 o (by simp)
    let val1 : Nat → Value := fun j => if j = i then v else val0 j
    have hf1 : Fr ops val1 a0 (fun j => decide (j < i)) a := fr_congr hf (fun _ _ => rfl) (fun j hj => by
      have : j < i := by simpa using hj
      show (if j = i then v else val0 j) = _
      rw [if_neg (by omega)])
    have hv1 : val1 i = v := if_pos rfl
    have hf2 : Fr ops val1 a0 (fun j => decide (j < i + 1)) (a.put o.dst v) := by
      rw [← hv1]
      exact fr_put ok hi hf1 fun j _ => by
        rw [Bool.eq_iff_iff]; simp; omega
    obtain ⟨val, hv, hsteps, hend⟩ := seq_split ok rest (i + 1) val1 (a.put o.dst v) (fun j o' hj => by
      have := hl (j + 1) o' (by simpa using hj)
      rw [show i + 1 + j = i + (j + 1) by omega]; exact this) hf2 hrest
    refine ⟨val, fun j hj => ?_, fun k ok' hk hkl hko => ?_, ?_⟩
    · rw [hv j (by omega)]
      show (if j = i then v else val0 j) = _
      rw [if_neg (by omega)]
    · by_cases hki : k = i
      · subst hki
        rw [hi] at hko
        cases hko
        refine ⟨a, fr_congr hf1 (fun _ _ => rfl) (fun j hj => hv j (Nat.lt_succ_of_lt (by simpa using hj))), ?_⟩
        rw [hv k (by omega), hv1]
        exact hs
      · exact hsteps k ok' (by omega) (by simp only [List.length_cons] at hkl; omega) hko
    · rw [show i + (o :: rest).length = i + 1 + rest.length by simp only [List.length_cons]; omega]
      exact hend

/-- THE LAW: a drawing region whose first k operations have one value each, and whose other ones wait for all ahead, comes to what the text's order comes to. -/
theorem region_det (W : Wide F) {id : Nat} {l : List Oper} {t : Array Value} {d : List Deferred} {w : World} (S : World → Prop) (k : Nat) (hm : P.follows .mixedOrders = true) (hok : okOps l.toArray = true) (hnd : noDefer l.toArray = true) (ht : tailOk l.toArray k = true) (hk : k ≤ l.length) (hS : S w.drew)
    (h : SeqW F n P l.toArray S d (fun t' => ∀ w', S w' → wpListIn F n P l.toArray Q (l.drop k) { tmps := t', defers := d } w') (l.take k) t) : (Code.region id l.toArray true).wpIn F n P Q { tmps := t, defers := d } w := by
  have ok := okOps_spec hok
  have hlen : l.toArray.size = l.length := by simp
  refine wpIn_region_any hm ?_
  obtain ⟨val, _, hsteps, x, hfx, t', rfl, hR⟩ := seq_split ok (l.take k) 0 (fun _ => undef) { tmps := t, defers := d } (fun j o hj => by
    rw [List.getElem?_take] at hj
    split at hj
    · simpa using hj
    · cases hj) (fr_start _ _ _ fun i _ => by simp) (seqL_of_W W hS _ _ h)
  have hlk : 0 + (l.take k).length = k := by rw [List.length_take]; omega
  rw [hlk] at hsteps hfx
  refine any_det W (noDefer_spec hnd) ok (k := k) (by omega) ht (val := val) (fun i o hi ho => hsteps i o (Nat.zero_le _) hi ho) (fun y hy w' hS' => ?_) _ _ _ _ (by simp) ?_ ?_ ?_ ?_ hS
  · rw [fr_eq hy hfx fun _ _ => rfl]
    exact hR w' hS'
  · have : ∀ (L : Nat → Bool) n, cnt L n ≤ n := fun L n => by
      induction n with
      | zero => exact Nat.le_refl _
      | succ n ih => simp only [cnt]; split <;> omega
    exact this _ _
  · intro i o hi hl
    rw [rep_false] at hl
    cases hl
  · intro i hi hl
    rw [rep_false] at hl
    cases hl
  · exact fr_start _ _ _ fun i hi => rep_false _ i

/-- what an operation's walk ends at: hidden, so that the walk leaves it as it is -/
def AtEnd (S : World → Prop) (d : List Deferred) (t' : Array Value) : Exit → Act → World → Prop := fun e a' w' => e = .normal ∧ a' = { tmps := t', defers := d } ∧ S w'
theorem AtEnd.mk {d : List Deferred} {t' : Array Value} {w : World} (h : S w) : AtEnd S d t' .normal { tmps := t', defers := d } w := ⟨rfl, rfl, h⟩
theorem seqW_cons {d : List Deferred} {R : Array Value → Prop} {o : Oper} {rest : List Oper} {t t' : Array Value} (h : ∀ w, S w → wpListIn F n P ops (AtEnd S d t') [o] { tmps := t, defers := d } w)
    (hr : SeqW F n P ops S d R rest t') : SeqW F n P ops S d R (o :: rest) t := ⟨t', h, hr⟩
theorem seqW_nil {d : List Deferred} {R : Array Value → Prop} {t : Array Value} (h : R t) : SeqW F n P ops S d R [] t := h
/-- all operations have one value each -/
theorem region_all (W : Wide F) {id : Nat} {l : List Oper} {t : Array Value} {d : List Deferred} {w : World} (S : World → Prop) (hm : P.follows .mixedOrders = true) (hok : okOps l.toArray = true) (hnd : noDefer l.toArray = true) (hS : S w.drew)
    (h : SeqW F n P l.toArray S d (fun t' => ∀ w', S w' → Q .normal { tmps := t', defers := d } w') l t) : (Code.region id l.toArray true).wpIn F n P Q { tmps := t, defers := d } w := by
  have ht : tailOk l.toArray l.length = true := by
    unfold tailOk
    rw [List.all_eq_true]
    intro j hj
    have : j < l.length := by simpa using hj
    simp [this]
  refine region_det W S l.length hm hok hnd ht (Nat.le_refl _) hS ?_
  rw [List.take_of_length_le (Nat.le_refl _), List.drop_of_length_le (Nat.le_refl _)]
  exact h
end Go.DetIn
/- best.Of, walked by hand. -/
namespace Go.Proofs.Ytbddfnmhhmkfkaa.Pr
set_option linter.unusedVariables false
set_option linter.unusedSimpArgs false
open Go.RowKit Go.Shelf Go.Maps Go.Proofs.YtbddfnmhhmkfkaaW.PrintWords
attribute [local go_sem] Oper.semAt_some

def wayCells (x : List Int × Int) : List Value := [.int .i64 (Go.DP.hd x.1), .int .i64 x.2, .int .i64 (frmP x.1)]
def flat70 (xs : List (List Int × Int)) : List Value := xs.flatMap wayCells
theorem flat70_length (xs : List (List Int × Int)) : (flat70 xs).length = xs.length * 3 := by
  induction xs with
  | nil => rfl
  | cons x xs ih => simp [flat70, wayCells] at ih ⊢; omega
theorem flat70_snoc (xs : List (List Int × Int)) (x : List Int × Int) : flat70 (xs ++ [x]) = flat70 xs ++ wayCells x := by simp [flat70]
theorem flat70_get (xs : List (List Int × Int)) : ∀ (j : Nat), j < xs.length → (flat70 xs)[j * 3]? = some (.int .i64 (Go.DP.hd (xs.getD j ([], 0)).1)) ∧ (flat70 xs)[j * 3 + 1]? = some (.int .i64 (xs.getD j ([], 0)).2) ∧ (flat70 xs)[j * 3 + 2]? = some (.int .i64 (frmP (xs.getD j ([], 0)).1)) := by
  induction xs with
  | nil => intro j h; simp at h
  | cons x xs ih =>
    intro j h
    cases j with
    | zero => simp [flat70, wayCells]
    | succ j =>
      have := ih j (by simpa using h)
      have e : flat70 (x :: xs) = wayCells x ++ flat70 xs := rfl
      have l : (wayCells x).length = 3 := rfl
      rw [e, List.getElem?_append_right (by omega), List.getElem?_append_right (by omega), List.getElem?_append_right (by omega), l]
      rw [show (j + 1) * 3 - 3 = j * 3 by omega, show (j + 1) * 3 + 1 - 3 = j * 3 + 1 by omega, show (j + 1) * 3 + 2 - 3 = j * 3 + 2 by omega]
      simpa using this
theorem info70h : (Try.prog.info? 70).map (fun i => (i.zero, i.size, i.bytes)) = some (some (.agg #[(.int .i64 0), (.int .i64 0), (.int .i64 0)]), 3, 24) := by kernel_rfl
theorem law3 : Keyed Try.prog 3 := int_keyed Try.underlying3
theorem zero3 (w : World) : (zeroValue 3).run Try.prog w = .ok (.int .i64 0) w := by kernel_rfl
/-- the map of last lines' begins -/
structure MapOk (D : DataW Unit) (ws : List (List Int × Int)) : Prop where
  is : IsMap D
  at_ : ∀ x ∈ ws, x.1 ≠ [] → ∀ z, D.atKey (.int .i64 (Go.DP.hd x.1)) z = .lit (.int .i64 (frmP x.1))
theorem mapOk_put {D : DataW Unit} {ws : List (List Int × Int)} {q : List Int × Int} (h : MapOk D ws) (hlt : ∀ x ∈ ws, Go.DP.hd x.1 < Go.DP.hd q.1) : MapOk (D.put (.int .i64 (Go.DP.hd q.1)) (.lit (.int .i64 (frmP q.1)))) (ws ++ [q]) := by
  refine ⟨h.is.put _ _, fun x hx hne z => ?_⟩
  rcases List.mem_append.1 hx with hx | hx
  · have := hlt x hx
    rw [atKey_put_other (fun e => by have := (Lit.int.inj e).2; omega)]
    exact h.at_ x hx hne z
  · obtain rfl := List.mem_singleton.1 hx
    exact atKey_put_same h.is (show WideAt.IsKeyLit (.int .i64 _) from trivial) _ _
theorem map_apart {w : World} {H : Type} {P : Program} {k : TypeId} {R : Value → Option (DataW H × List MemPlace)} {b m : Nat} {D : DataW H} (hm : w.ownsMap P k R b m D) {base e size n : Nat} {v : Value} {xs : List Value} (h : w.ownsRow base e size v n xs) : some b ≠ v.ownBlock := by
  obtain ⟨es, clock, hb, _⟩ := hm
  rcases h.2 with ⟨rfl, _⟩ | ⟨g, cap, cur, rfl, _, hg, _⟩
  · simp [Value.ownBlock]
  · intro e
    obtain rfl : b = g := by simpa [Value.ownBlock] using e
    rw [hb] at hg
    cases hg
theorem row_frm (l : List S43) : ∀ x : List Int, RowP l x → -1 ≤ frmP x ∧ frmP x ≤ l.length
  | [], _ => by simp only [frmP]; omega
  | t :: r, h => by
    have := row_len l r h.2.2.2
    exact this.2
theorem wf_small {a : Int} (h0 : -9223372036854775808 ≤ a) (h1 : a ≤ 9223372036854775807) : (Lit.int .i64 a).wf = true := by
  have := wrap64_wf a
  rwa [w64 h0 h1] at this
theorem own_RI {w : World} {base : Nat} {v : Value} {xs : List Int} (h : w.ownsRow base 3 1 v xs.length (nums .i64 xs)) (b' : Nat) (hb : b' ≤ base) (ok : Nat → Prop) (hok : ∀ k, v.ownBlock = some k → ok k) : Kd.R (Kd.int .i64) 3 w b' ok v xs := by
  refine Kd.R_lower (base := base) ⟨hok, nums .i64 xs, h, by rw [nums_length]; exact (Nat.mul_one _).symm, fun j p hp => ?_⟩ hb
  show ((nums .i64 xs).drop (j * 1)).take 1 = [.int .i64 p]
  obtain ⟨hlt, rfl⟩ := List.getElem?_eq_some_iff.1 hp
  have hl2 : j < (nums .i64 xs).length := by simpa [nums] using hlt
  rw [Nat.mul_one, List.drop_eq_getElem_cons hl2]
  simp [nums]
theorem info3h : (Try.prog.info? 3).map (fun i => (i.zero, i.size, i.bytes)) = some (some (.int .i64 0), 1, 8) := by kernel_rfl
/-- the loop's word -/
def OfI (l : List S43) (w : Int) (nF gW gL gM gb : Nat) (fl : Array Value) (wF : World) (pre : List Int) (W : World) : Prop :=
  (∃ v, Boxed W gW 71 v ∧ W.ownsRow nF 70 3 v (waysP l w pre).length (flat70 (waysP l w pre)) ∧ True) ∧
  (∃ D, Boxed W gL 72 (.map (some gM)) ∧ W.ownsMap Try.prog 3 (plainElem Try.prog 3) gM pre.length D ∧ MapOk D (waysP l w pre)) ∧ W.heap[gb]? = some (.cells fl 67 (0, 0)) ∧ Below nF wF W
theorem ofI_own (l : List S43) (w : Int) (nF gW gL gM gb : Nat) (fl : Array Value) (wF : World) (B : Nat) (h1 : gL < B) (h2 : gM < B) (h3 : nF ≤ wF.heap.size) (h4 : nF ≤ B) (h5 : gb < B) : OwnFrom B (OfI l w nF gW gL gM gb fl wF) := by
  refine OwnFrom.and (Own.from (holdsRow_own nF gW 71 70 3 (fun pre => (waysP l w pre).length) (fun pre => flat70 (waysP l w pre)) (fun _ _ => True)) _) (OwnFrom.and ?_ (OwnFrom.and (fun s W W' row hs hg hr => (hg.block gb (blk_lt hs) (fun e => by have := (hr gb e.symm).1; omega)).trans hs) (ownFrom_below h3 h4)))
  intro s W W' row hs hg hr
  obtain ⟨D, hb, hm, hd⟩ := hs
  refine ⟨D, hb.kept hg (fun e => ?_), hm.kept hg (fun e => ?_), hd⟩
  · have := (hr gL e.symm).1; omega
  · have := (hr gM e.symm).1; omega
set_option maxRecDepth 100000 in
set_option maxHeartbeats 4000000 in
theorem of_bad (A0 : Option Addr) (c0 : Nat) (l0 : List S43) (a1 : Int) (w : World) (hr0 : Kd.C k43 w A0 l0.length l0) (hc0 : l0.length ≤ c0) (hk : checkP l0 a1 = 1) :
    Calls Try.prog 13 #[.slice A0 l0.length c0, .int .i64 a1] w fun e w' => e = .returned (.tuple #[.slice none 0 0, .int .i64 1]) ∧ Below w.heap.size w w' := by
  have hck := best_Check.calls A0 c0 l0 a1 _ w hr0 hc0 rfl
  rw [hk] at hck
  have HCK := Lib.hid hck
  clear hck hr0 hc0
  go_enter Try.func13, Try.ntmps13
  go_wp2_with fail
  refine HCK.out.mono ?_
  rintro _ w2 ⟨rfl, hb⟩
  go_wp2
  go_ret2
  exact ⟨rfl, hb⟩
set_option maxRecDepth 100000 in
set_option maxHeartbeats 8000000 in
theorem of_good (A0 : Option Addr) (c0 : Nat) (l0 : List S43) (a1 : Int) (w : World) (hl : l0.length ≤ 1000000) (hr0 : Kd.C k43 w A0 l0.length l0) (hc0 : l0.length ≤ c0) (hk : checkP l0 a1 = 0) :
    Calls Try.prog 13 #[.slice A0 l0.length c0, .int .i64 a1] w fun e w' => ∃ v, e = .returned (.tuple #[v, .int .i64 0]) ∧ Kd.R (Kd.int .i64) 3 w' w.heap.size (fun _ => True) v (rowR l0 a1).reverse ∧ Below w.heap.size w w' := by
  obtain ⟨i0, hi, hz0_, hz1, hz2⟩ := info_parts info70h
  have ok := check_ok hk
  have hck := best_Check.calls A0 c0 l0 a1 _ w hr0 hc0 rfl
  rw [hk] at hck
  have HCK := Lib.hid hck
  have HBG := fun W hW => begin_flow A0 c0 l0 a1 W hl (Kd.C_below hr0 hW)
  obtain ⟨S, hS⟩ : ∃ S, sumsTo l0 l0.length = S := ⟨_, rfl⟩
  rw [hS] at HBG
  have HB := Lib.hid HBG
  have HS := Lib.hid hS
  have HR := Lib.hid hr0
  have OK := Lib.hid ok
  have hnl : (l0.length : Int) ≤ 1000000 := by omega
  have HC0 := Lib.hid hc0
  clear hck HBG hS hr0 ok hk hc0
  have hmm := @run_makeMap Try.prog
  refine (callsIn_wide (n := 3)).1 (callsIn_of_wp_marks Try.func13 rfl trivial ?_ rfl)
  simp only [Try.ntmps13, List.size_toArray, List.length_cons, List.length_nil, Nat.reduceAdd, Nat.reduceSub, Array.replicate_succ, Array.replicate_zero, List.push_toArray, List.append_toArray, List.nil_append, List.cons_append]
  refine wpIn_wide.2 ?_
  go_wp2_with fail
  refine HCK.out.mono ?_
  rintro _ w1 ⟨rfl, hb1⟩
  go_wp2_with fail
  refine (HB.out _ hb1).mono ?_
  rintro _ w2 ⟨A2, c2, rfl, hs, hc2, hb2⟩
  replace hb2 := hb1.trans (hb2.mono hb1.size)
  clear hb1
  go_wp2_with (go_at_call 44; refine ((callsIn_wide (n := 2)).1 (places_in A0 l0.length c0 a1 A2 S.length c2 2 _)).mono ?_; rintro e w' ⟨rfl, rfl⟩)
  obtain ⟨flow, hflow⟩ : ∃ o, Obj.cells #[.slice A0 l0.length c0, .int .i64 a1, .slice A2 S.length c2] 67 = o := ⟨_, rfl⟩
  have e0 := blk_new w2 (.cells #[.slice A0 l0.length c0, .int .i64 a1, .slice A2 S.length c2] 67)
  have hC : ∀ W, Below (w2.heap.size + 1) (w2.alloc (.cells #[.slice A0 l0.length c0, .int .i64 a1, .slice A2 S.length c2] 67)) W → Kd.C k43 W A0 l0.length l0 ∧ Kd.C k85 W A2 S.length S := fun W hW =>
    ⟨Kd.C_below (Kd.C_below HR.out (below_alloc hb2 _)) (hW.mono (by simp)), Kd.C_below (Kd.C_alloc hs _) (by simpa using hW)⟩
  have HC := Lib.hid hC
  have hBF : Below w.heap.size w (w2.alloc (.cells #[.slice A0 l0.length c0, .int .i64 a1, .slice A2 S.length c2] 67)) := below_alloc hb2 _
  have hszF : (w2.alloc (.cells #[.slice A0 l0.length c0, .int .i64 a1, .slice A2 S.length c2] 67)).heap.size = w2.heap.size + 1 := by simp
  obtain ⟨wF, hwF⟩ : ∃ W, w2.alloc (.cells #[.slice A0 l0.length c0, .int .i64 a1, .slice A2 S.length c2] 67) = W := ⟨_, rfl⟩
  rw [hwF] at e0 hBF hszF HC ⊢
  have hnF : w.heap.size ≤ w2.heap.size + 1 := by have := hb2.size; omega
  clear hs hb2 hC hflow flow
  have b1 := Boxed.new (wF.alloc (.cells #[.int .i64 (-1), .int .i64 0, .int .i64 0] 70)) 71 (.slice (some ⟨w2.heap.size + 1, 0, none⟩) 1 1)
  have b0 : (wF.alloc (.cells #[.int .i64 (-1), .int .i64 0, .int .i64 0] 70)).ownsRow (w2.heap.size + 1) 70 3 (.slice (some ⟨w2.heap.size + 1, 0, none⟩) 1 1) 1 [.int .i64 (-1), .int .i64 0, .int .i64 0] :=
    ⟨rfl, .inr ⟨w2.heap.size + 1, 1, _, rfl, Nat.le_refl _, by rw [← hszF]; exact heap_alloc_new _ _, Nat.le_refl _, by unfold maxLen; omega, rfl, rfl⟩⟩
  have b2 := World.ownsMap_made (H := Unit) ((wF.alloc (.cells #[.int .i64 (-1), .int .i64 0, .int .i64 0] 70)).alloc (.cells #[.slice (some ⟨w2.heap.size + 1, 0, none⟩) 1 1] 71)) Try.prog 3 (plainElem Try.prog 3)
  have b3 := Boxed.new (((wF.alloc (.cells #[.int .i64 (-1), .int .i64 0, .int .i64 0] 70)).alloc (.cells #[.slice (some ⟨w2.heap.size + 1, 0, none⟩) 1 1] 71)).alloc (.map #[] 0)) 72 (.map (some (w2.heap.size + 1 + 1 + 1)))
  have b4 := blk_new ((((wF.alloc (.cells #[.int .i64 (-1), .int .i64 0, .int .i64 0] 70)).alloc (.cells #[.slice (some ⟨w2.heap.size + 1, 0, none⟩) 1 1] 71)).alloc (.map #[] 0)).alloc (.cells #[.map (some (w2.heap.size + 1 + 1 + 1))] 72)) (.cells #[.slice A0 l0.length c0, .int .i64 a1, .slice A2 S.length c2] 67)
  simp only [World.size_alloc, hszF] at b1 b2 b3 b4
  obtain ⟨o70, ho70⟩ : ∃ o, Obj.cells #[.int .i64 (-1), .int .i64 0, .int .i64 0] 70 = o := ⟨_, rfl⟩
  have hB0 : Below (w2.heap.size + 1) wF (((((wF.alloc (.cells #[.int .i64 (-1), .int .i64 0, .int .i64 0] 70)).alloc (.cells #[.slice (some ⟨w2.heap.size + 1, 0, none⟩) 1 1] 71)).alloc (.map #[] 0)).alloc (.cells #[.map (some (w2.heap.size + 1 + 1 + 1))] 72)).alloc (.cells #[.slice A0 l0.length c0, .int .i64 a1, .slice A2 S.length c2] 67)) := by
    rw [← hszF]
    exact ((((((Below.refl _ _).alloc (Nat.le_refl _) _).alloc (by simp) _).alloc (by simp; omega) _).alloc (by simp; omega) _).alloc (by simp; omega) _)
  replace b0 := ((((b0.alloc (.cells #[.slice (some ⟨w2.heap.size + 1, 0, none⟩) 1 1] 71)).alloc (.map #[] 0)).alloc (.cells #[.map (some (w2.heap.size + 1 + 1 + 1))] 72)).alloc (.cells #[.slice A0 l0.length c0, .int .i64 a1, .slice A2 S.length c2] 67))
  replace b1 := ((b1.alloc (.map #[] 0)).alloc (.cells #[.map (some (w2.heap.size + 1 + 1 + 1))] 72)).alloc (.cells #[.slice A0 l0.length c0, .int .i64 a1, .slice A2 S.length c2] 67)
  replace b2 := (b2.alloc (.cells #[.map (some (w2.heap.size + 1 + 1 + 1))] 72)).alloc (.cells #[.slice A0 l0.length c0, .int .i64 a1, .slice A2 S.length c2] 67)
  replace b3 := b3.alloc (.cells #[.slice A0 l0.length c0, .int .i64 a1, .slice A2 S.length c2] 67)
  have hz0 : (((((wF.alloc (.cells #[.int .i64 (-1), .int .i64 0, .int .i64 0] 70)).alloc (.cells #[.slice (some ⟨w2.heap.size + 1, 0, none⟩) 1 1] 71)).alloc (.map #[] 0)).alloc (.cells #[.map (some (w2.heap.size + 1 + 1 + 1))] 72)).alloc (.cells #[.slice A0 l0.length c0, .int .i64 a1, .slice A2 S.length c2] 67)).heap.size = w2.heap.size + 6 := by simp [hszF]
  obtain ⟨W0, hW0⟩ : ∃ W0, (((((wF.alloc (.cells #[.int .i64 (-1), .int .i64 0, .int .i64 0] 70)).alloc (.cells #[.slice (some ⟨w2.heap.size + 1, 0, none⟩) 1 1] 71)).alloc (.map #[] 0)).alloc (.cells #[.map (some (w2.heap.size + 1 + 1 + 1))] 72)).alloc (.cells #[.slice A0 l0.length c0, .int .i64 a1, .slice A2 S.length c2] 67)) = W0 := ⟨_, rfl⟩
  rw [hW0] at b0 b1 b2 b3 b4 hB0 hz0 ⊢
  clear hW0 ho70 o70 hwF hmm
  have hI0 : OfI l0 a1 (w2.heap.size + 1) (w2.heap.size + 1 + 1) (w2.heap.size + 1 + 1 + 1 + 1) (w2.heap.size + 1 + 1 + 1) (w2.heap.size + 1 + 1 + 1 + 1 + 1) #[.slice A0 l0.length c0, .int .i64 a1, .slice A2 S.length c2] wF [] W0 :=
    ⟨⟨_, b1, b0, trivial⟩, ⟨_, b3, b2, ⟨isMap_empty, fun x hx hne => by
      obtain rfl := List.mem_singleton.1 (show x ∈ [([], 0)] from hx)
      exact absurd rfl hne⟩⟩, b4, hB0⟩
  have hhands := places_hands 2 (by omega) l0 hl a1 A0 c0 A2 S c2 (w2.heap.size + 1) (w2.heap.size + 1 + 1 + 1 + 1 + 1) wF W0 HC0.out hc2 HC.out hB0 (by omega) b4
  refine (wpIn_wide (n := 3)).1 ?_
  apply Go.Next.range_next rfl (by omega) (gf := 74) (lb := #[.pointer (some ⟨w2.heap.size + 1 + 1 + 1 + 1 + 1, 0, none⟩)]) rfl trivial (enters_of Try.func74 (by kernel_rfl) rfl) (encs := fun x : Int => #[.int .i64 x]) (Kp := PK (w2.heap.size + 1) (w2.heap.size + 1 + 1 + 1 + 1 + 1))
    hhands PK_t (PK_b (nF := w2.heap.size + 1) (gb := w2.heap.size + 1 + 1 + 1 + 1 + 1) (w := W0) (by omega) (by omega)) (Below.refl _ _) (fun _ => rfl)
    (OfI l0 a1 (w2.heap.size + 1) (w2.heap.size + 1 + 1) (w2.heap.size + 1 + 1 + 1 + 1) (w2.heap.size + 1 + 1 + 1) (w2.heap.size + 1 + 1 + 1 + 1 + 1) #[.slice A0 l0.length c0, .int .i64 a1, .slice A2 S.length c2] wF) (ofI_own _ _ _ _ _ _ _ _ _ _ (by omega) (by omega) (by omega) (by omega) (by omega)) hI0
  case hassign =>
    intro l x W K hK
    gi_wp2
    exact hK
  case hbody =>
    intro lr pre t suf W hpl hIW
    obtain ⟨⟨v, hv, hrow, -⟩, ⟨D, hL, hM, hD⟩, hgb, hB⟩ := hIW
    have HGB := Lib.hid hgb
    clear hgb
    have hm := met OK.out pre t suf hpl
    have e1 : W.heap[w2.heap.size]? = some (.cells #[.slice A0 l0.length c0, .int .i64 a1, .slice A2 S.length c2] 67 (0, 0)) := (hB.block _ (by omega)).trans e0
    have hlen := hm.len
    obtain ⟨ws, hws⟩ : ∃ ws, waysP l0 a1 pre = ws := ⟨_, rfl⟩
    have hfew := hm.few
    rw [hws] at hrow hlen hD hfew
    rw [hlen] at hrow
    obtain ⟨g, cap, rfl⟩ := ownsRow_succ hrow
    have hgl := own_lt hrow g rfl
    have hvc := (hv.alloc (.cells #[.int .i64 t, .int .i64 (-1), .int .i64 0] 70)).cell
    have hft : (pre.length : Int) ≤ 16385 := by omega
    have HV := Lib.hid hv
    have HROW := Lib.hid hrow
    have HL2 := Lib.hid hL
    have HM2 := Lib.hid hM
    have HD := Lib.hid hD
    have HMET := Lib.hid hm
    have HWS := Lib.hid hws
    have HLEN := Lib.hid hlen
    have E1 := Lib.hid e1
    have HPL := Lib.hid hpl
    have t0 := hm.t0
    have t1 := hm.t1
    clear hv hrow hL hM hD hm hws hlen e1 hpl
    have bb := blk_new W (.cells #[.int .i64 t, .int .i64 (-1), .int .i64 0] 70)
    have bB : Below W.heap.size W (W.alloc (.cells #[.int .i64 t, .int .i64 (-1), .int .i64 0] 70)) := (Below.refl _ _).alloc (Nat.le_refl _) _
    have BB := Lib.hid bb
    clear bb
    gi_wp2
    gi_loopw [36] (fun i wr => ∃ j : Nat, j ≤ pre.length + 1 ∧ i = .int .i64 j ∧ Below W.heap.size W wr ∧ wr.heap[W.heap.size]? = some (.cells #[.int .i64 t, .int .i64 (encB (Go.DP.pick (legalP l0) (costP l0 a1) t (ws.take j) none)).1, .int .i64 (encB (Go.DP.pick (legalP l0) (costP l0 a1) t (ws.take j) none)).2] 70 (0, 0)))
      (fun i _ => pre.length + 1 - (intOf i).toNat)
    case atStart => exact ⟨0, Nat.zero_le _, rfl, bB, BB.out⟩
    case round =>
      clear hvc bB
      obtain ⟨j, hj, rfl, hBr, hBx⟩ := hrel
      by_cases hlt : j < pre.length + 1
      · have hlt1 : (j : Int) < (pre.length : Int) + 1 := by omega
        have hjw : j < ws.length := by have := HLEN.out; omega
        have hrw := pw_own_below HROW.out hBr
        have hfl := blk_below E1.out hBr
        obtain ⟨f1, f2, f3⟩ := flat70_get ws j hjw
        have s0 := hrw.cellAt (j * 3) (by omega)
        have s1 := hrw.cellAt (j * 3 + 1) (by omega)
        have s2 := hrw.cellAt (j * 3 + 2) (by omega)
        rw [f1] at s0
        rw [f2] at s1
        rw [f3] at s2
        have hxm := HMET.out.at_ (ws.getD j ([], 0)) (by rw [← HWS.out] at hjw ⊢; exact way_mem hjw)
        have htk := take_at (l := l0) (w := a1) (pre := pre) (j := j) (by rw [HWS.out]; exact hjw)
        rw [HWS.out] at htk
        have hpb := pick_bd OK.out HMET.out j
        rw [HWS.out] at hpb
        have hsn := pick_snoc (legal := legalP l0) (cost := costP l0 a1) t (ws.take j) (ws.getD j ([], 0)) none
        rw [← htk] at hsn
        have hla := legal_f l0 a1 S (Go.DP.hd (ws.getD j ([], 0)).1) t
        have hdm := demerits_spec OK.out hxm.1 hxm.2.1 t1 0
        have hcb := costP_bd OK.out hxm.1 hxm.2.1 t1
        rw [HS.out] at hdm
        have HSN := Lib.hid hsn
        have HPB := Lib.hid hpb
        have HFL := Lib.hid hfl
        have HBX := Lib.hid hBx
        clear hrw hfl f1 f2 f3 htk hsn hpb hBx hjw
        generalize ws.getD j ([], 0) = x at *
        obtain ⟨xp, xs⟩ := x
        dsimp only at *
        generalize costP l0 a1 (Go.DP.hd xp) t = cc at *
        generalize frmP xp = fx at *
        generalize hax : Go.DP.hd xp = ax at *
        have HAX := Lib.hid hax
        clear hax
        generalize Go.DP.pick (legalP l0) (costP l0 a1) t (ws.take j) none = bst at *
        obtain ⟨bs, bf, hbs, hbs0⟩ : ∃ bs bf, encB bst = (bs, bf) ∧ (bs = -1 ∧ bst = none ∨ 0 ≤ bs ∧ ∃ q, bst = some q ∧ q.2 = bs) := by
          cases bst with
          | none => exact ⟨-1, 0, rfl, .inl ⟨rfl, rfl⟩⟩
          | some q => exact ⟨q.2, frmP q.1, rfl, .inr ⟨HPB.out q rfl, q, rfl, rfl⟩⟩
        rw [hbs] at HBX
        dsimp only at HBX
        have HBS := Lib.hid hbs
        have HBS0 := Lib.hid hbs0
        clear hbs hbs0
        have hXF := blk_alloc HFL.out (.cells #[.int .i64 ax, .int .i64 xs, .int .i64 fx] 70)
        have hXX := blk_new wr (.cells #[.int .i64 ax, .int .i64 xs, .int .i64 fx] 70)
        have hXB := blk_alloc HBX.out (.cells #[.int .i64 ax, .int .i64 xs, .int .i64 fx] 70)
        have hBX : Below W.heap.size W (wr.alloc (.cells #[.int .i64 ax, .int .i64 xs, .int .i64 fx] 70)) := below_alloc hBr _
        obtain ⟨y0, y1, y2⟩ := flow_cells hXF
        have hBF4 : Below (w2.heap.size + 1) wF (wr.alloc (.cells #[.int .i64 ax, .int .i64 xs, .int .i64 fx] 70)) := hB.trans (hBX.mono (by have := hB.size; omega))
        have hlc := best_flow_legal.calls A0 c0 l0 a1 A2 c2 S ax t _ _ (HC.out _ hBF4).1 HC0.out (HC.out _ hBF4).2 hc2 hla
        obtain ⟨lg, hlg⟩ : ∃ b, legalP l0 ax t = b := ⟨_, rfl⟩
        rw [hlg] at hlc
        have HLG := Lib.hid hlg
        have HLC := Lib.hid hlc
        have HDM := Lib.hid hdm
        have HXF := Lib.hid hXF
        have HXX := Lib.hid hXX
        have HXB := Lib.hid hXB
        clear hla hlc hlg hdm hXF hXX hXB
        gi_wp2_with fail
        refine ⟨trivial, (CallsIn.inRound lr (callsIn_wide.2 HLC.out)).mono ?_⟩
        rintro e w4 ⟨rfl, hb4⟩
        have hXF := blk_below HXF.out hb4
        have hXX := blk_below HXX.out hb4
        have hXB := blk_below HXB.out hb4
        have hBX4 := below_step hBX hb4
        have hB4 := hBF4.trans (hb4.mono (by have := hBX.size; have := hB.size; omega))
        clear y0 y1 y2 s0 s1 s2 hb4 HLC hBX hBF4
        cases lg
        · gi_wp2
          go_roundw
          case rel =>
            refine ⟨j + 1, by omega, by go_num, hBX4, ?_⟩
            rw [HSN.out, if_neg (by rw [HLG.out]; simp), HBS.out]
            exact hXB
          case measure => simp [intOf]; omega
        · obtain ⟨y0, y1, y2⟩ := flow_cells hXF
          have x0 := blk_cell hXX 0
          have x1 := blk_cell hXX 1
          simp only [List.getElem?_toArray, List.getElem?_cons_succ, List.getElem?_cons_zero] at x0 x1
          have HXF := Lib.hid hXF
          have HXX := Lib.hid hXX
          have HXB := Lib.hid hXB
          clear hXF hXX hXB
          gi_wp2_with fail
          clear y0 y1 y2 x0 x1
          have hdx : ∀ W', Below w4.heap.size w4 W' → Calls Try.prog 46 #[.agg #[.slice A0 l0.length c0, .int .i64 a1, .slice A2 S.length c2], .int .i64 ax, .int .i64 t] W' fun e w' => e = .returned (.int .i64 cc) ∧ Below W'.heap.size W' w' := fun W' hW' => by
            have hb' := hB4.trans (hW'.mono (by have := hBX4.size; have := hB.size; omega))
            exact best_flow_demerits.calls 2 A0 c0 l0 a1 A2 c2 S ax t cc W' (HC.out _ hb').1 HC0.out (HC.out _ hb').2 hc2 HDM.out
          have HDX := Lib.hid hdx
          have HCX : Hid (∀ W', Below w4.heap.size w4 W' → (W'.cell? ⟨w2.heap.size, 0, none⟩ = some (.slice A0 l0.length c0) ∧ W'.cell? ⟨w2.heap.size, 1, none⟩ = some (.int .i64 a1) ∧ W'.cell? ⟨w2.heap.size, 2, none⟩ = some (.slice A2 S.length c2)) ∧ W'.cell? ⟨wr.heap.size, 0, none⟩ = some (.int .i64 ax) ∧ W'.cell? ⟨wr.heap.size, 1, none⟩ = some (.int .i64 xs)) := Lib.hid fun W' hW' =>
            ⟨flow_cells (blk_below HXF.out hW'), by rw [blk_cell (blk_below HXX.out hW') 0]; rfl, by rw [blk_cell (blk_below HXX.out hW') 1]; rfl⟩
          clear hdx
          refine Go.DetIn.region_all (Go.DetIn.wide_round lr) (fun W' => Below w4.heap.size w4 W') (by kernel_rfl) (by kernel_rfl) (by kernel_rfl) (below_drew (Below.refl _ _)) ?_
          repeat (apply Go.DetIn.seqW_cons; focus (intro W' hS'; replace hS' : Below w4.heap.size w4 W' := hS'; obtain ⟨⟨y0, y1, y2⟩, x0, x1⟩ := HCX.out W' hS'; gi_wp2_with (refine ⟨trivial, (CallsIn.inRound lr (callsIn_wide.2 (HDX.out W' hS'))).mono ?_⟩; rintro e w5 ⟨rfl, hb5⟩; replace hS' := hS'.trans (hb5.mono hS'.size); clear hb5); exact Go.DetIn.AtEnd.mk hS'))
          refine Go.DetIn.seqW_nil ?_
          intro w5 hS5
          replace hS5 : Below w4.heap.size w4 w5 := hS5
          have hXX := blk_below HXX.out hS5
          have hXB := blk_below HXB.out hS5
          have hB5 : Below W.heap.size W w5 := below_step hBX4 hS5
          clear hS5 HCX HDX
          simp only [Exit.then]
          have x0 := blk_cell hXX 0
          have b1 := blk_cell hXB 1
          have b2 := blk_cell hXB 2
          have z1 := blk_frozen hXB 1
          have z2 := blk_frozen hXB 2
          simp only [List.getElem?_toArray, List.getElem?_cons_succ, List.getElem?_cons_zero] at x0 b1 b2
          have HXX5 := Lib.hid hXX
          have HXB5 := Lib.hid hXB
          clear hXX hXB HXF HXX HXB
          have hne : wr.heap.size ≠ W.heap.size := by have := hBr.size; have := blk_lt HBX.out; omega
          rcases HBS0.out with ⟨rfl, rfl⟩ | ⟨hb0, q, rfl, hq⟩
          · gi_wp2_with fail
            have mixed : Try.prog.follows .mixedOrders = true := by kernel_rfl
            gi_region_with_o (fail)
            all_goals
              have q6 : (((w5.setCell ⟨W.heap.size, 1, none⟩ (.int .i64 (xs + cc))).setCell ⟨W.heap.size, 2, none⟩ (.int .i64 ax)).drew).heap[W.heap.size]? = some (.cells #[.int .i64 t, .int .i64 (xs + cc), .int .i64 ax] 70 (0, 0)) := blk_drew (blk_put (blk_put HXB5.out 1 _ rfl) 2 _ rfl)
              have q7 : Below W.heap.size W (((w5.setCell ⟨W.heap.size, 1, none⟩ (.int .i64 (xs + cc))).setCell ⟨W.heap.size, 2, none⟩ (.int .i64 ax)).drew) := below_drew ((hB5.setCell (Nat.le_refl _) _).setCell (Nat.le_refl _) _)
              clear x0 b1 b2 z1 z2
              gi_wp2
              go_roundw
              case rel =>
                refine ⟨j + 1, by omega, by go_num, q7, ?_⟩
                rw [HSN.out, if_pos ⟨HLG.out, fun y hy => by cases hy⟩]
                simp only [encB, frmP]
                rw [HAX.out]
                exact q6
              case measure => simp [intOf]; omega

          · by_cases hsl : xs + cc < bs
            · have hn0 : ¬ bs < 0 := by omega
              gi_wp2_with fail
              have mixed : Try.prog.follows .mixedOrders = true := by kernel_rfl
              gi_region_with_o (fail)
              all_goals
                have q6 : (((w5.setCell ⟨W.heap.size, 1, none⟩ (.int .i64 (xs + cc))).setCell ⟨W.heap.size, 2, none⟩ (.int .i64 ax)).drew).heap[W.heap.size]? = some (.cells #[.int .i64 t, .int .i64 (xs + cc), .int .i64 ax] 70 (0, 0)) := blk_drew (blk_put (blk_put HXB5.out 1 _ rfl) 2 _ rfl)
                have q7 : Below W.heap.size W (((w5.setCell ⟨W.heap.size, 1, none⟩ (.int .i64 (xs + cc))).setCell ⟨W.heap.size, 2, none⟩ (.int .i64 ax)).drew) := below_drew ((hB5.setCell (Nat.le_refl _) _).setCell (Nat.le_refl _) _)
                clear x0 b1 b2 z1 z2
                gi_wp2
                go_roundw
                case rel =>
                  refine ⟨j + 1, by omega, by go_num, q7, ?_⟩
                  rw [HSN.out, if_pos ⟨HLG.out, fun y hy => by cases hy; rw [hq]; exact hsl⟩]
                  simp only [encB, frmP]
                  rw [HAX.out]
                  exact q6
                case measure => simp [intOf]; omega

            · have hn0 : ¬ bs < 0 := by omega
              gi_wp2
              go_roundw
              case rel =>
                refine ⟨j + 1, by omega, by go_num, hB5, ?_⟩
                rw [HSN.out, if_neg (fun h => hsl (by have := h.2 q rfl; rw [hq] at this; exact this)), HBS.out]
                exact HXB5.out
              case measure => simp [intOf]; omega
      · obtain rfl : j = pre.length + 1 := by omega
        have hlt1 : ¬ (((pre.length + 1 : Nat) : Int) < (pre.length : Int) + 1) := by omega
        obtain ⟨q, hq, hnext, hqt⟩ := HMET.out.next
        have hmat := HMET.out.at_
        rw [HWS.out] at hq hnext hmat
        rw [List.take_of_length_le (by have := HLEN.out; omega), hq] at hBx
        simp only [encB] at hBx
        have hsz := hBr.size
        have hv2 : Boxed wr (w2.heap.size + 1 + 1) 71 (.slice (some ⟨g, 0, none⟩) (pre.length + 1) cap) := blk_below HV.out hBr
        have hrow2 := pw_own_below HROW.out hBr
        have hL2 : Boxed wr (w2.heap.size + 1 + 1 + 1 + 1) 72 (.map (some (w2.heap.size + 1 + 1 + 1))) := blk_below HL2.out hBr
        have hM2 := HM2.out.kept (grown_of_below hBr none) (by simp)
        have hgb2 := blk_below HGB.out hBr
        have hvc := hv2.cell
        have bx0 := blk_cell hBx 0
        have bx1 := blk_cell hBx 1
        have bx2 := blk_cell hBx 2
        simp only [List.getElem?_toArray, List.getElem?_cons_succ, List.getElem?_cons_zero] at bx0 bx1 bx2
        have hMp := mapOk_put HD.out (q := q) (fun x hx => by rw [hqt]; exact (hmat x hx).2.1)
        rw [hqt] at hMp
        have hfl : flat70 (ws ++ [q]) = flat70 ws ++ [.int .i64 t, .int .i64 q.2, .int .i64 (frmP q.1)] := by rw [flat70_snoc, wayCells, hqt]
        have HR2 := Lib.hid hrow2
        have HM3 := Lib.hid hM2
        have HGB2 := Lib.hid hgb2
        have HBX := Lib.hid hBx
        have HV2 := Lib.hid hv2
        have HL3 := Lib.hid hL2
        have HQ := Lib.hid (And.intro hnext (And.intro hqt (And.intro hMp hfl)))
        obtain ⟨fq, hfq⟩ : ∃ f, frmP q.1 = f := ⟨_, rfl⟩
        have HFQ := Lib.hid hfq
        rw [hfq] at bx2
        generalize q.2 = qs at *
        clear hmat hq hnext hqt hMp hfl hrow2 hM2 hgb2 hBx hv2 hL2 hfq
        gi_wp2_with (gi_at_builtin; refine wpListIn_append_own _ rfl _ _ 71 rfl (w2.heap.size + 1) 70 i0 (.agg #[(.int .i64 0), (.int .i64 0), (.int .i64 0)]) 3 24 Try.underlying71 hi hz0_ hz1 hz2 rfl (by decide) _ _ _ rfl (HR2.out.alloc _) ⟨wr.heap.size, 0, none⟩ 1 1 [.int .i64 t, .int .i64 qs, .int .i64 fq] rfl rfl ?c1 ?c2 ?c3 ?c4 ?c5 ?c6)
        try (case c1 => exact cells_new wr [.int .i64 t, .int .i64 qs, .int .i64 fq] 70)
        case c2 => simp [Value.oneCell']
        case c3 => unfold maxLen; omega
        case c4 => omega
        case c5 => have := hB.size; simp; omega
        case c6 =>
          intro v' w6 hown' hgrow _
          obtain ⟨A', c', rfl⟩ := own_slice hown'
          obtain ⟨hv1, hv3, hr3, hk3, hb3⟩ := HV2.out.appended (by decide) HR2.out (show w2.heap.size + 1 ≤ wr.heap.size by have := hB.size; omega) (by omega) hown' hgrow
          have hbx7 := blk_far (blk_grown (blk_alloc HBX.out _) hgrow (fun e => by simp [Value.ownBlock] at e; omega)) (p := ⟨w2.heap.size + 1 + 1, 0, none⟩) (by have := hB.size; have := HV.out.lt; simp; omega) (.slice A' (pre.length + 1 + 1) c')
          have hL7 : Boxed (w6.setCell ⟨w2.heap.size + 1 + 1, 0, none⟩ (.slice A' (pre.length + 1 + 1) c')) (w2.heap.size + 1 + 1 + 1 + 1) 72 (.map (some (w2.heap.size + 1 + 1 + 1))) := ((HL3.out.alloc _).kept hgrow (own_apart HR2.out HL3.out (by decide))).other (by omega) _
          have hM7 := ((HM3.out.alloc (.cells #[.int .i64 t, .int .i64 qs, .int .i64 fq] 70)).kept hgrow (map_apart HM3.out HR2.out)).kept (grownBy_setCell' w6 (w2.heap.size + 1 + 1) (.slice A' (pre.length + 1 + 1) c')) (by simp <;> omega)
          have hgb7 := blk_far (blk_grown (blk_alloc HGB2.out _) hgrow (own_apart HR2.out HGB2.out (by decide))) (p := ⟨w2.heap.size + 1 + 1, 0, none⟩) (by simp <;> omega) (.slice A' (pre.length + 1 + 1) c')
          have v1 := hv1.cell
          have v2 := hv1.frozen
          have l7 := hL7.cell
          have x2 := blk_cell hbx7 2
          simp only [List.getElem?_toArray, List.getElem?_cons_succ, List.getElem?_cons_zero] at x2
          rw [HFQ.out] at x2
          have hwt : (Lit.int .i64 t).wf = true := wf_small (by omega) (by omega)
          have hfb : -1 ≤ fq ∧ fq ≤ 1000000 := by
            have hi' := inv_pre l0 a1 (pre ++ [t]) suf (by rw [show placesP l0 = placesTo l0 (l0.length + 1) from rfl, HPL.out]; simp)
            have hbq := hi'.best q (by rw [HQ.out.1]; simp)
            have := row_frm l0 q.1 hbq.1
            rw [HFQ.out] at this
            omega
          have hwf : (Lit.int .i64 fq).wf = true := wf_small (by omega) (by omega)
          have hkey : keyOf Try.prog 3 (.int .i64 t) = some (.int .i64 t) := keyOf_int_mk Try.underlying3 hwt
          have HM7 := Lib.hid hM7
          have HH := Lib.hid (And.intro hv3 (And.intro hr3 (And.intro hk3 (And.intro hb3 (And.intro hL7 hgb7)))))
          have HW := Lib.hid (And.intro hwt (And.intro hwf hkey))
          clear hM7 hv3 hr3 hk3 hb3 hL7 hgb7 hbx7 hv1 hwt hwf hkey hown' hgrow bx0 bx1 bx2 hvc
          gi_wp2_with (gi_at_mapUpdate; refine wpListIn_mapUpdate_own _ rfl _ _ _ 72 rfl 3 3 law3 Try.underlying72 _ (w2.heap.size + 1 + 1 + 1) pre.length _ rfl HM7.out (by unfold maxLen; omega) _ _ _ rfl rfl HW.out.2.2 _ [] (plainElem_int Try.underlying3 HW.out.2.1) ?_; intro w8 hown8 hgrow8)
          obtain ⟨hv3, hr3, hk3, hb3, hL7, hgb7⟩ := HH.out
          obtain ⟨hnext, hqt, hMp, hfl⟩ := HQ.out
          have hnf := hB.size
          refine ⟨rfl, ?_, ⟨?_, ?_⟩, ?_⟩
          · exact (KeepsFrom.of_grownBy (row := none) (grown_of_below hBr none) (fun _ e => by cases e)).trans ((hk3.from _).trans (KeepsFrom.of_grownBy hgrow8 (fun j hj => by cases hj; omega)))
          · exact ((hBr.mono (by omega)).trans hb3).grown hgrow8 (by have := hb3.size; omega) (fun j hj => by cases hj; omega)
          · exact ((hgrow8.block _ (blk_lt hgb7) (by simp <;> omega)).trans hgb7).trans HGB.out.symm
          · refine ⟨⟨_, hv3.kept hgrow8 (by simp <;> omega), ?_, trivial⟩, ⟨D.put (.int .i64 t) (.lit (.int .i64 fq)), hL7.kept hgrow8 (by simp <;> omega), ?_, ?_⟩, (hgrow8.block _ (blk_lt hgb7) (by simp <;> omega)).trans hgb7, (hB.trans ((hBr.mono (by omega)).trans hb3)).grown hgrow8 (by have := hb3.size; omega) (fun j hj => by cases hj; omega)⟩
            · rw [hnext, hfl, List.length_append, HLEN.out, HFQ.out]
              exact hr3.kept hgrow8 (.inr (map_apart HM7.out hr3).symm)
            · rw [List.length_append]
              exact hown8
            · rw [hnext, ← HFQ.out]
              exact hMp
  case hdone =>
    intro D W hD hIW hK
    obtain ⟨⟨v, -⟩, ⟨DM, hL, hM, hDM⟩, -, hB⟩ := hIW
    obtain ⟨i3, hj, hy0, hy1, hy2⟩ := info_parts info3h
    have hDl : D < W.heap.size := blk_lt hK
    have hBW : Below w.heap.size w W := hBF.trans (hB.mono hnF)
    obtain ⟨s, hmem, hhd, hbest⟩ := best_row OK.out
    have hinv := inv_pre l0 a1 (placesP l0) [] (by simp)
    have hrl := row_len l0 _ hbest.1
    rw [hhd] at hrl
    have HL4 := Lib.hid hL
    have HM4 := Lib.hid hM
    have HDM := Lib.hid hDM
    have HK4 := Lib.hid hK
    have HINV := Lib.hid hinv
    have hlc := hL.cell
    clear v hL hM hDM hK hinv hB b0 b1 b2 b3 b4 hI0 hhands hB0
    simp only [Exit.inBlock, Exit.then]
    go_wp2_with fail
    go_loopw [15, 16] (fun v a wr => ∃ (out p : List Int) (s x : Int), (p, s) ∈ waysP l0 a1 (placesP l0) ∧ rowR l0 a1 = out ++ p ∧ Hid (Go.DP.hd p = x) ∧ a = .int .i64 x ∧ wr.ownsRow W.heap.size 3 1 v out.length (nums .i64 out) ∧ Below W.heap.size W wr) (fun _ a _ => (intOf a + 1).toNat)
    case atStart => exact ⟨[], rowR l0 a1, s, _, hmem, rfl, Lib.hid hhd, rfl, World.ownsRow_nil _ _ _ _, Below.refl _ _⟩
    case round =>
      clear hmem hhd hbest
      obtain ⟨out, p, s, x, hmem, hrow, HX, rfl, hown, hBr⟩ := hrel
      have hbp := HINV.out.best _ hmem
      have hrp := row_len l0 p hbp.1
      rw [HX.out] at hrp
      have hol : out.length ≤ 1000001 := by
        have := congrArg List.length hrow
        rw [List.length_append] at this
        omega
      have HROW := Lib.hid hrow
      have HMEM := Lib.hid hmem
      have HOWN := Lib.hid hown
      have HBP := Lib.hid hbp
      have hsz := hBr.size
      clear hrow hmem hown hbp hlc
      by_cases hx0 : 0 ≤ x
      · have hnx : ¬ x < 0 := by omega
        go_wp2_with (at_builtin; refine wpList_append_own _ rfl _ _ 25 rfl W.heap.size 3 i3 (.int .i64 0) 1 8 Try.underlying25 hj hy0 hy1 hy2 rfl (by decide) _ _ _ rfl (HOWN.out.alloc _) ⟨wr.heap.size, 0, none⟩ 1 1 [.int .i64 x] rfl rfl ?b1 ?b2 ?b3 ?b4 ?b5 ?b6)
        try (case b1 => exact cells_new wr [.int .i64 x] 3)
        case b2 => simp [Value.oneCell']
        case b3 => unfold maxLen; omega
        case b4 => omega
        case b5 => first | omega | (simp; omega)
        case b6 =>
          intro v5 w5 hown5 hgrow5 _
          have hB5 : Below W.heap.size W w5 := (hBr.alloc hBr.size _).grown hgrow5 (by simp; omega) fun j hj => own_base HOWN.out j hj
          have hL5 : Boxed w5 (w2.heap.size + 1 + 1 + 1 + 1) 72 (.map (some (w2.heap.size + 1 + 1 + 1))) := blk_below HL4.out hB5
          have hM5 := HM4.out.kept (grown_of_below hB5 none) (by simp)
          have l5 := hL5.cell
          have hkey : keyOf Try.prog 3 (.int .i64 x) = some (.int .i64 x) := keyOf_int_mk Try.underlying3 (wf_small (by omega) (by omega))
          have HM5 := Lib.hid hM5
          have HO5 := Lib.hid hown5
          have HKEY := Lib.hid hkey
          clear hM5 hown5 hkey hgrow5 hL5
          go_wp2_with (at_lookup; refine wpList_lookup_own_int _ rfl _ _ 72 rfl 3 3 .i64 law3 Try.underlying72 Try.underlying3 (zero3 _) (w2.heap.size + 1 + 1 + 1) _ _ rfl HM5.out _ _ rfl HKEY.out ?_; intro c hat hwc)
          obtain ⟨at_, r, rfl⟩ : ∃ at_ r, p = at_ :: r := by
            cases p with
            | nil => have := HX.out; simp only [Go.DP.hd] at this; omega
            | cons a r => exact ⟨a, r, rfl⟩
          have hx1 : at_ = x := HX.out
          have hlt := HBP.out.1.2.1
          have htail : ∃ s', (r, s') ∈ waysP l0 a1 (placesP l0) := by
            rcases HINV.out.tail _ HMEM.out with h | ⟨s', h⟩
            · cases h
            · exact ⟨s', h⟩
          obtain ⟨s', htail⟩ := htail
          have hat2 := HDM.out.at_ _ HMEM.out (by simp)
          have hc : c = Go.DP.hd r := by
            have h1 := hat2 (.lit (.int .i64 0))
            rw [show Go.DP.hd (at_ :: r, s).1 = x from HX.out, hat] at h1
            cases h1
            rfl
          subst hc
          have hcl : Go.DP.hd r < x := by rw [← hx1]; exact hlt
          have HC2 := Lib.hid hat
          clear hat hat2 hlt hx1
          go_roundw
          case rel =>
            refine ⟨out ++ [at_], r, s', _, htail, by rw [HROW.out]; simp, Lib.hid rfl, rfl, ?_, hB5⟩
            rw [List.length_append, nums_append]
            rw [show at_ = x from HX.out]
            exact HO5.out
          case measure => simp [intOf]; omega
      · have hnx : x < 0 := by omega
        obtain rfl : p = [] := by
          cases p with
          | nil => rfl
          | cons a r =>
            have h1 := place_le HBP.out.1.1
            have h2 : a = x := HX.out
            omega
        have hrow := HROW.out
        rw [List.append_nil] at hrow
        obtain ⟨K, hK⟩ := reverse_ev out (by have := congrArg List.length hrow; have := OK.out.len; omega)
        have hR := own_RI HOWN.out w.heap.size hBW.size (fun k => k ≠ D) (fun k hk => by have := own_base HOWN.out k hk; omega)
        have hBB := hBW.trans (hBr.mono hBW.size)
        have hrc := slices_Reverse_int_int.calls K (fun k => k ≠ D) _ out out.reverse w wr hBB hR (hK K (Nat.le_refl _))
        rw [← hrow] at hrc
        have HRC := Lib.hid hrc
        have hKr : wr.heap[D]? = some (.deferred (some [])) := blk_below HK4.out hBr
        have HKR := Lib.hid hKr
        obtain ⟨A9, c9, rfl⟩ := own_slice HOWN.out
        clear hrc hKr hrow hR hK
        go_wp2_with fail
        refine HRC.out.mono ?_
        rintro e w7 ⟨rfl, hR7, hB7, hK7⟩
        have hK2 : w7.heap[D]? = some (.deferred (some [])) := (hK7.2 D (blk_lt HKR.out) (by simp)).trans HKR.out
        have HR7 := Lib.hid hR7
        have HK7 := Lib.hid hK2
        clear hR7 hK7 hK2
        go_wp2
        refine ⟨by simp, .inl ⟨_, _, rfl, run_takeDeferred HK7.out, ?_⟩⟩
        have hDw : D < wr.heap.size := blk_lt HKR.out
        have hR8 := Kd.R_mono (Kd.R_grown HR7.out (grownBy_putObj' w7 D (.deferred none)) (fun k hk => by
          intro e
          have := Option.some.inj e
          rcases hk with hk | hk
          · exact hk this
          · omega)) (ok' := fun _ => True) (fun _ _ => trivial)
        have hB8 := hB7.trans (belowK_b (w := w) (Nat.le_refl _) w7 D (.deferred (some [])) (.deferred none) (by have := hBW.size; omega) HK7.out rfl rfl)
        exact ⟨_, results_tmp2 rfl _ _ _, _, rfl, hR8, hB8⟩
/-- best.Of -/
theorem best_Of.calls (A0 : Option Addr) (c0 : Nat) (l0 : List S43) (a1 : Int) (r1 : List Int) (r2 : Int) (w : World) (hr0 : Kd.C k43 w A0 l0.length l0) (hc0 : l0.length ≤ c0) (h : best_Of.f l0 a1 = some (r1, r2)) :
    Calls Try.prog 13 #[.slice A0 l0.length c0, .int .i64 a1] w fun e w' => ∃ v, e = .returned (.tuple #[v, .int .i64 r2]) ∧ Kd.R (Kd.int .i64) 3 w' w.heap.size (fun _ => True) v r1 ∧ Below w.heap.size w w' := by
  unfold best_Of.f at h
  split at h
  · rename_i hl
    replace h := Option.some.inj h
    unfold ofP at h
    rcases check_01 l0 a1 with hk | hk
    · rw [if_pos hk] at h
      cases h
      exact of_good A0 c0 l0 a1 w hl hr0 hc0 hk
    · rw [if_neg (by rw [hk]; simp), hk] at h
      cases h
      refine (of_bad A0 c0 l0 a1 w hr0 hc0 hk).mono ?_
      rintro e w' ⟨rfl, hb⟩
      exact ⟨_, rfl, Kd.R_nil _ _ _ _ _, hb⟩
  · cases h
end Go.Proofs.Ytbddfnmhhmkfkaa.Pr
/- Walks of the Go functions of this seat, and the Lean functions that they come to: written by a program (mkprint.py over the kit's print). -/
namespace Go.Proofs.Ytbddfnmhhmkfkaa.Pr
open Go.RowKit Go.Proofs.YtbddfnmhhmkfkaaW.PrintWords Go.Proofs.YtbddfnmhhmkfkaaW.PrintLast Go.Proofs.YtbddfnmhhmkfkaaW.PrintMore
attribute [local go_sem] max2_int min2_int max_two min_two max_three min_three max_four min_four   -- for this text's walks alone
set_option linter.unusedVariables false
set_option linter.unusedSimpArgs false

/-! ### styluslaw19_broken: function 42 -/
def styluslaw19_broken.f (k : Nat) (a0 : ByteArray) (a1 : Int) (l2 : List Int) : Option (Bool) := (styluslaw19_of.f k a0).bind fun t149 => ((best_Of.f t149 30).bind fun bt152 => ((styluslaw19_of.f k a0).bind fun t156 => ((best_Demerits.f t156 30 l2).bind fun bt159 => (if bt152.2 = 0 then ((styluslaw19_same.f k bt152.1 l2).bind fun t161 => (if t161 = true then (if bt159.2 = 0 then (some (bt159.1 == a1)) else (some false)) else (some false))) else (some false)))))
theorem styluslaw19_broken.mono : ∀ a0 a1 a2 k, LeO (styluslaw19_broken.f k a0 a1 a2) (styluslaw19_broken.f (k + 1) a0 a1 a2) := by
  intro a0 a1 a2 k
  unfold styluslaw19_broken.f
  repeat' first
      | (with_reducible exact styluslaw19_of.mono _ _)
      | (with_reducible exact styluslaw19_same.mono _ _ _)
      | (with_reducible exact LeO.refl _)
      | (with_reducible exact LeO.none _)
      | (with_reducible refine LeO.ite ?_ ?_)
      | (with_reducible refine LeO.bind ?_ (fun _ => ?_))
      | exact styluslaw19_of.mono _ _
      | exact styluslaw19_same.mono _ _ _
      | exact LeO.none _
      | refine LeO.ite ?_ ?_
      | refine LeO.bind ?_ (fun _ => ?_)
set_option maxHeartbeats 8000000 in
set_option maxRecDepth 100000 in
theorem styluslaw19_broken.calls (k : Nat) (a0 : ByteArray) (a1 : Int) (A2 : Option Addr) (c2 : Nat) (l2 : List Int) (r : Bool) (w : World) (hr2 : Kd.C (Kd.int .i64) w A2 l2.length l2) (hc2 : l2.length ≤ c2) (h : styluslaw19_broken.f k a0 a1 l2 = some r) :
    Calls Try.prog 42 #[.string a0, .int .i64 a1, .slice A2 l2.length c2] w fun e w' => e = .returned (.bool r) ∧ Below w.heap.size w w' := by
  have HR2 := Aside0.mk hr2
  have HC2 := Aside0.mk hc2
  clear hr2 hc2
  have HB := Aside0.mk (Below.refl w.heap.size w)
  have H : ((styluslaw19_of.f k a0).bind fun t149 => ((best_Of.f t149 30).bind fun bt152 => ((styluslaw19_of.f k a0).bind fun t156 => ((best_Demerits.f t156 30 l2).bind fun bt159 => (if bt152.2 = 0 then ((styluslaw19_same.f k bt152.1 l2).bind fun t161 => (if t161 = true then (if bt159.2 = 0 then (some (bt159.1 == a1)) else (some false)) else (some false))) else (some false)))))) = some r := h
  clear h
  replace H := Option.bind_eq_some_iff.mp H
  obtain ⟨t149, A40, H⟩ := H
  replace H : ((best_Of.f t149 30).bind fun bt152 => ((styluslaw19_of.f k a0).bind fun t156 => ((best_Demerits.f t156 30 l2).bind fun bt159 => (if bt152.2 = 0 then ((styluslaw19_same.f k bt152.1 l2).bind fun t161 => (if t161 = true then (if bt159.2 = 0 then (some (bt159.1 == a1)) else (some false)) else (some false))) else (some false))))) = some r := H
  have A4 := Aside0.mk A40
  clear A40
  replace H := Option.bind_eq_some_iff.mp H
  obtain ⟨⟨t152, t153⟩, A50, H⟩ := H
  replace H : ((styluslaw19_of.f k a0).bind fun t156 => ((best_Demerits.f t156 30 l2).bind fun bt159 => (if t153 = 0 then ((styluslaw19_same.f k t152 l2).bind fun t161 => (if t161 = true then (if bt159.2 = 0 then (some (bt159.1 == a1)) else (some false)) else (some false))) else (some false)))) = some r := H
  have A5 := Aside0.mk A50
  clear A50
  replace H := Option.bind_eq_some_iff.mp H
  obtain ⟨t156, A60, H⟩ := H
  replace H : ((best_Demerits.f t156 30 l2).bind fun bt159 => (if t153 = 0 then ((styluslaw19_same.f k t152 l2).bind fun t161 => (if t161 = true then (if bt159.2 = 0 then (some (bt159.1 == a1)) else (some false)) else (some false))) else (some false))) = some r := H
  have A6 := Aside0.mk A60
  clear A60
  replace H := Option.bind_eq_some_iff.mp H
  obtain ⟨⟨t159, t160⟩, A70, H⟩ := H
  replace H : (if t153 = 0 then ((styluslaw19_same.f k t152 l2).bind fun t161 => (if t161 = true then (if t160 = 0 then (some (t159 == a1)) else (some false)) else (some false))) else (some false)) = some r := H
  have A7 := Aside0.mk A70
  clear A70
  by_cases c8 : t153 = 0
  · rw [if_pos c8] at H
    have c8b0 : (t153 == 0) = true := beq_iff_eq.mpr c8
    have c8b1 : (t153 != 0) = false := bne_eq_false_iff_eq.mpr c8
    clear c8
    replace H := Option.bind_eq_some_iff.mp H
    obtain ⟨t161, A90, H⟩ := H
    replace H : (if t161 = true then (if t160 = 0 then (some (t159 == a1)) else (some false)) else (some false)) = some r := H
    have A9 := Aside0.mk A90
    clear A90
    by_cases c10 : t161 = true
    · subst c10
      have H1 : (if t160 = 0 then (some (t159 == a1)) else (some false)) = some r := by rw [if_pos rfl] at H; exact H
      clear H
      have H := H1
      clear H1
      by_cases c11 : t160 = 0
      · rw [if_pos c11] at H
        have c11b0 : (t160 == 0) = true := beq_iff_eq.mpr c11
        have c11b1 : (t160 != 0) = false := bne_eq_false_iff_eq.mpr c11
        clear c11
        obtain rfl := Option.some.inj H
        go_enter Try.func42, Try.ntmps42
        go_wp2_with (first | ((with_reducible refine gate_callee (f := 41) rfl ?_); refine goesL_ (some 13) rfl rfl Try.func41 (by kernel_rfl) rfl #[.string a0] rfl (by (try simp only [List.map_toArray, List.map_cons, List.map_nil]); first | done | rfl | (simp only [List.length_drop, List.length_take]; rfl)) ?_; (with_reducible refine (styluslaw19_of.calls k a0 t149 _ A4.out).mono ?_); rintro e w12 ⟨v150, rfl, ho0, hb⟩; refine ⟨_, rfl, ?_⟩; have n0_ := Aside0.mk (Kd.R_lower ho0 (below_size (by repeat (first | (with_reducible first | exact HB.out | apply below_alloc | apply pw_below_drewN | apply below_drew1) | exact HB.out)))); have n1_ := Aside0.mk (below_step (by repeat (first | (with_reducible first | exact HB.out | apply below_alloc | apply pw_below_drewN | apply below_drew1) | exact HB.out)) hb); clear HB; have HO151 := n0_; have HB := n1_; clear n0_ n1_; (try clear hb); (try clear hb2); (try clear hk); (try clear hi); (try clear ho0); obtain ⟨Ao13, co13, eo13⟩ := Kd.R_slice HO151.out; subst eo13) | ((with_reducible refine gate_callee (f := 13) rfl ?_); refine goesL_ (some 14) rfl rfl Try.func13 (by kernel_rfl) rfl #[.slice Ao13 t149.length co13, .int .i64 30] rfl (by (try simp only [List.map_toArray, List.map_cons, List.map_nil]); first | done | rfl | (simp only [List.length_drop, List.length_take]; rfl)) ?_; (with_reducible refine (best_Of.calls _ _ t149 30 t152 t153 _ ?side1 ?side2 A5.out).mono ?_); (case side1 => repeat (first | exact (Kd.R_reads' HO151.out).2.2 | (with_reducible refine Kd.C_alloc ?_ _) | (with_reducible refine Kd.C_drewN ?_ _) | (with_reducible refine Kd.C_drew ?_))); (case side2 => exact (Kd.R_reads' HO151.out).2.1); rintro e w14 ⟨v154, rfl, ho0, hb⟩; refine ⟨_, rfl, ?_⟩; have n0_ := Aside0.mk (Kd.R_below (by (with_reducible repeat (first | apply Kd.R_alloc | apply Kd.R_drewN | apply Kd.R_drew)); exact HO151.out) hb); have n1_ := Aside0.mk (Kd.R_lower ho0 (below_size (by repeat (first | (with_reducible first | exact HB.out | apply below_alloc | apply pw_below_drewN | apply below_drew1) | exact HB.out)))); have n2_ := Aside0.mk (below_step (by repeat (first | (with_reducible first | exact HB.out | apply below_alloc | apply pw_below_drewN | apply below_drew1) | exact HB.out)) hb); clear HO151; clear HB; have HO151 := n0_; have HO155 := n1_; have HB := n2_; clear n0_ n1_ n2_; (try clear hb); (try clear hb2); (try clear hk); (try clear hi); (try clear ho0)) | ((with_reducible refine gate_callee (f := 41) rfl ?_); refine goesL_ (some 19) rfl rfl Try.func41 (by kernel_rfl) rfl #[.string a0] rfl (by (try simp only [List.map_toArray, List.map_cons, List.map_nil]); first | done | rfl | (simp only [List.length_drop, List.length_take]; rfl)) ?_; (with_reducible refine (styluslaw19_of.calls k a0 t156 _ A6.out).mono ?_); rintro e w15 ⟨v157, rfl, ho0, hb⟩; refine ⟨_, rfl, ?_⟩; have n0_ := Aside0.mk (Kd.R_elder' (by (with_reducible repeat (first | apply Kd.R_alloc | apply Kd.R_drewN | apply Kd.R_drew)); exact HO151.out) (Kd.R_base ho0) hb); have n1_ := Aside0.mk (Kd.R_below (by (with_reducible repeat (first | apply Kd.R_alloc | apply Kd.R_drewN | apply Kd.R_drew)); exact HO155.out) hb); have n2_ := Aside0.mk (Kd.R_lower (Kd.R_new' ho0 (Kd.R_lt (by (with_reducible repeat (first | apply Kd.R_alloc | apply Kd.R_drewN | apply Kd.R_drew)); exact HO151.out))) (below_size (by repeat (first | (with_reducible first | exact HB.out | apply below_alloc | apply pw_below_drewN | apply below_drew1) | exact HB.out)))); have n3_ := Aside0.mk (below_step (by repeat (first | (with_reducible first | exact HB.out | apply below_alloc | apply pw_below_drewN | apply below_drew1) | exact HB.out)) hb); clear HO151; clear HO155; clear HB; have HO151 := n0_; have HO155 := n1_; have HO158 := n2_; have HB := n3_; clear n0_ n1_ n2_ n3_; (try clear hb); (try clear hb2); (try clear hk); (try clear hi); (try clear ho0); obtain ⟨Ao16, co16, eo16⟩ := Kd.R_slice HO158.out; subst eo16) | ((with_reducible refine gate_callee (f := 21) rfl ?_); refine goesL_ (some 21) rfl rfl Try.func21 (by kernel_rfl) rfl #[.slice Ao16 t156.length co16, .int .i64 30, .slice A2 l2.length c2] rfl (by (try simp only [List.map_toArray, List.map_cons, List.map_nil]); first | done | rfl | (simp only [List.length_drop, List.length_take]; rfl)) ?_; (with_reducible refine (best_Demerits.calls _ _ t156 30 _ _ l2 t159 t160 _ ?side1 ?side2 ?side3 ?side4 A7.out).mono ?_); (case side1 => repeat (first | exact (Kd.R_reads' HO158.out).2.2 | (with_reducible refine Kd.C_alloc ?_ _) | (with_reducible refine Kd.C_drewN ?_ _) | (with_reducible refine Kd.C_drew ?_))); (case side2 => exact (Kd.R_reads' HO158.out).2.1); (case side3 => repeat (first | exact (Kd.C_below HR2.out HB.out) | (with_reducible refine Kd.C_alloc ?_ _) | (with_reducible refine Kd.C_drewN ?_ _) | (with_reducible refine Kd.C_drew ?_))); (case side4 => exact HC2.out); rintro e w17 ⟨rfl, hb⟩; refine ⟨_, rfl, ?_⟩; have n0_ := Aside0.mk (Kd.R_below (by (with_reducible repeat (first | apply Kd.R_alloc | apply Kd.R_drewN | apply Kd.R_drew)); exact HO151.out) hb); have n1_ := Aside0.mk (Kd.R_below (by (with_reducible repeat (first | apply Kd.R_alloc | apply Kd.R_drewN | apply Kd.R_drew)); exact HO155.out) hb); have n2_ := Aside0.mk (Kd.R_below (by (with_reducible repeat (first | apply Kd.R_alloc | apply Kd.R_drewN | apply Kd.R_drew)); exact HO158.out) hb); have n3_ := Aside0.mk (below_step (by repeat (first | (with_reducible first | exact HB.out | apply below_alloc | apply pw_below_drewN | apply below_drew1) | exact HB.out)) hb); clear HO151; clear HO155; clear HO158; clear HB; have HO151 := n0_; have HO155 := n1_; have HO158 := n2_; have HB := n3_; clear n0_ n1_ n2_ n3_; (try clear hb); (try clear hb2); (try clear hk); (try clear hi); obtain ⟨Ao18, co18, eo18⟩ := Kd.R_slice HO155.out; subst eo18) | (go_at_call 15; (with_reducible refine (styluslaw19_same.calls k _ _ t152 _ _ l2 true _ ?side1 ?side2 ?side3 ?side4 A9.out).mono ?_); (case side1 => repeat (first | exact (Kd.R_reads' HO155.out).2.2 | (with_reducible refine Kd.C_alloc ?_ _) | (with_reducible refine Kd.C_drewN ?_ _) | (with_reducible refine Kd.C_drew ?_))); (case side2 => exact (Kd.R_reads' HO155.out).2.1); (case side3 => repeat (first | exact (Kd.C_below HR2.out HB.out) | (with_reducible refine Kd.C_alloc ?_ _) | (with_reducible refine Kd.C_drewN ?_ _) | (with_reducible refine Kd.C_drew ?_))); (case side4 => exact HC2.out); rintro e w' ⟨rfl, ⟨nd, rfl⟩⟩))
        go_ret
        exact ⟨by first | rfl | (simp [errW_none, errW_some] <;> rfl) | (simp [*, errW_none, errW_some] <;> rfl), by repeat (first | (with_reducible first | exact HB.out | apply below_alloc | apply pw_below_drewN | apply below_drew1) | exact HB.out)⟩
      · rw [if_neg c11] at H
        have c11b0 : (t160 == 0) = false := beq_eq_false_iff_ne.mpr c11
        have c11b1 : (t160 != 0) = true := bne_iff_ne.mpr c11
        obtain rfl := Option.some.inj H
        go_enter Try.func42, Try.ntmps42
        go_wp2_with (first | ((with_reducible refine gate_callee (f := 41) rfl ?_); refine goesL_ (some 13) rfl rfl Try.func41 (by kernel_rfl) rfl #[.string a0] rfl (by (try simp only [List.map_toArray, List.map_cons, List.map_nil]); first | done | rfl | (simp only [List.length_drop, List.length_take]; rfl)) ?_; (with_reducible refine (styluslaw19_of.calls k a0 t149 _ A4.out).mono ?_); rintro e w19 ⟨v150, rfl, ho0, hb⟩; refine ⟨_, rfl, ?_⟩; have n0_ := Aside0.mk (Kd.R_lower ho0 (below_size (by repeat (first | (with_reducible first | exact HB.out | apply below_alloc | apply pw_below_drewN | apply below_drew1) | exact HB.out)))); have n1_ := Aside0.mk (below_step (by repeat (first | (with_reducible first | exact HB.out | apply below_alloc | apply pw_below_drewN | apply below_drew1) | exact HB.out)) hb); clear HB; have HO151 := n0_; have HB := n1_; clear n0_ n1_; (try clear hb); (try clear hb2); (try clear hk); (try clear hi); (try clear ho0); obtain ⟨Ao20, co20, eo20⟩ := Kd.R_slice HO151.out; subst eo20) | ((with_reducible refine gate_callee (f := 13) rfl ?_); refine goesL_ (some 14) rfl rfl Try.func13 (by kernel_rfl) rfl #[.slice Ao20 t149.length co20, .int .i64 30] rfl (by (try simp only [List.map_toArray, List.map_cons, List.map_nil]); first | done | rfl | (simp only [List.length_drop, List.length_take]; rfl)) ?_; (with_reducible refine (best_Of.calls _ _ t149 30 t152 t153 _ ?side1 ?side2 A5.out).mono ?_); (case side1 => repeat (first | exact (Kd.R_reads' HO151.out).2.2 | (with_reducible refine Kd.C_alloc ?_ _) | (with_reducible refine Kd.C_drewN ?_ _) | (with_reducible refine Kd.C_drew ?_))); (case side2 => exact (Kd.R_reads' HO151.out).2.1); rintro e w21 ⟨v154, rfl, ho0, hb⟩; refine ⟨_, rfl, ?_⟩; have n0_ := Aside0.mk (Kd.R_below (by (with_reducible repeat (first | apply Kd.R_alloc | apply Kd.R_drewN | apply Kd.R_drew)); exact HO151.out) hb); have n1_ := Aside0.mk (Kd.R_lower ho0 (below_size (by repeat (first | (with_reducible first | exact HB.out | apply below_alloc | apply pw_below_drewN | apply below_drew1) | exact HB.out)))); have n2_ := Aside0.mk (below_step (by repeat (first | (with_reducible first | exact HB.out | apply below_alloc | apply pw_below_drewN | apply below_drew1) | exact HB.out)) hb); clear HO151; clear HB; have HO151 := n0_; have HO155 := n1_; have HB := n2_; clear n0_ n1_ n2_; (try clear hb); (try clear hb2); (try clear hk); (try clear hi); (try clear ho0)) | ((with_reducible refine gate_callee (f := 41) rfl ?_); refine goesL_ (some 19) rfl rfl Try.func41 (by kernel_rfl) rfl #[.string a0] rfl (by (try simp only [List.map_toArray, List.map_cons, List.map_nil]); first | done | rfl | (simp only [List.length_drop, List.length_take]; rfl)) ?_; (with_reducible refine (styluslaw19_of.calls k a0 t156 _ A6.out).mono ?_); rintro e w22 ⟨v157, rfl, ho0, hb⟩; refine ⟨_, rfl, ?_⟩; have n0_ := Aside0.mk (Kd.R_elder' (by (with_reducible repeat (first | apply Kd.R_alloc | apply Kd.R_drewN | apply Kd.R_drew)); exact HO151.out) (Kd.R_base ho0) hb); have n1_ := Aside0.mk (Kd.R_below (by (with_reducible repeat (first | apply Kd.R_alloc | apply Kd.R_drewN | apply Kd.R_drew)); exact HO155.out) hb); have n2_ := Aside0.mk (Kd.R_lower (Kd.R_new' ho0 (Kd.R_lt (by (with_reducible repeat (first | apply Kd.R_alloc | apply Kd.R_drewN | apply Kd.R_drew)); exact HO151.out))) (below_size (by repeat (first | (with_reducible first | exact HB.out | apply below_alloc | apply pw_below_drewN | apply below_drew1) | exact HB.out)))); have n3_ := Aside0.mk (below_step (by repeat (first | (with_reducible first | exact HB.out | apply below_alloc | apply pw_below_drewN | apply below_drew1) | exact HB.out)) hb); clear HO151; clear HO155; clear HB; have HO151 := n0_; have HO155 := n1_; have HO158 := n2_; have HB := n3_; clear n0_ n1_ n2_ n3_; (try clear hb); (try clear hb2); (try clear hk); (try clear hi); (try clear ho0); obtain ⟨Ao23, co23, eo23⟩ := Kd.R_slice HO158.out; subst eo23) | ((with_reducible refine gate_callee (f := 21) rfl ?_); refine goesL_ (some 21) rfl rfl Try.func21 (by kernel_rfl) rfl #[.slice Ao23 t156.length co23, .int .i64 30, .slice A2 l2.length c2] rfl (by (try simp only [List.map_toArray, List.map_cons, List.map_nil]); first | done | rfl | (simp only [List.length_drop, List.length_take]; rfl)) ?_; (with_reducible refine (best_Demerits.calls _ _ t156 30 _ _ l2 t159 t160 _ ?side1 ?side2 ?side3 ?side4 A7.out).mono ?_); (case side1 => repeat (first | exact (Kd.R_reads' HO158.out).2.2 | (with_reducible refine Kd.C_alloc ?_ _) | (with_reducible refine Kd.C_drewN ?_ _) | (with_reducible refine Kd.C_drew ?_))); (case side2 => exact (Kd.R_reads' HO158.out).2.1); (case side3 => repeat (first | exact (Kd.C_below HR2.out HB.out) | (with_reducible refine Kd.C_alloc ?_ _) | (with_reducible refine Kd.C_drewN ?_ _) | (with_reducible refine Kd.C_drew ?_))); (case side4 => exact HC2.out); rintro e w24 ⟨rfl, hb⟩; refine ⟨_, rfl, ?_⟩; have n0_ := Aside0.mk (Kd.R_below (by (with_reducible repeat (first | apply Kd.R_alloc | apply Kd.R_drewN | apply Kd.R_drew)); exact HO151.out) hb); have n1_ := Aside0.mk (Kd.R_below (by (with_reducible repeat (first | apply Kd.R_alloc | apply Kd.R_drewN | apply Kd.R_drew)); exact HO155.out) hb); have n2_ := Aside0.mk (Kd.R_below (by (with_reducible repeat (first | apply Kd.R_alloc | apply Kd.R_drewN | apply Kd.R_drew)); exact HO158.out) hb); have n3_ := Aside0.mk (below_step (by repeat (first | (with_reducible first | exact HB.out | apply below_alloc | apply pw_below_drewN | apply below_drew1) | exact HB.out)) hb); clear HO151; clear HO155; clear HO158; clear HB; have HO151 := n0_; have HO155 := n1_; have HO158 := n2_; have HB := n3_; clear n0_ n1_ n2_ n3_; (try clear hb); (try clear hb2); (try clear hk); (try clear hi); obtain ⟨Ao25, co25, eo25⟩ := Kd.R_slice HO155.out; subst eo25) | (go_at_call 15; (with_reducible refine (styluslaw19_same.calls k _ _ t152 _ _ l2 true _ ?side1 ?side2 ?side3 ?side4 A9.out).mono ?_); (case side1 => repeat (first | exact (Kd.R_reads' HO155.out).2.2 | (with_reducible refine Kd.C_alloc ?_ _) | (with_reducible refine Kd.C_drewN ?_ _) | (with_reducible refine Kd.C_drew ?_))); (case side2 => exact (Kd.R_reads' HO155.out).2.1); (case side3 => repeat (first | exact (Kd.C_below HR2.out HB.out) | (with_reducible refine Kd.C_alloc ?_ _) | (with_reducible refine Kd.C_drewN ?_ _) | (with_reducible refine Kd.C_drew ?_))); (case side4 => exact HC2.out); rintro e w' ⟨rfl, ⟨nd, rfl⟩⟩))
        go_ret
        exact ⟨by first | rfl | (simp [errW_none, errW_some] <;> rfl) | (simp [*, errW_none, errW_some] <;> rfl), by repeat (first | (with_reducible first | exact HB.out | apply below_alloc | apply pw_below_drewN | apply below_drew1) | exact HB.out)⟩
    · replace c10 := Bool.eq_false_iff.mpr c10
      subst c10
      have H1 : (some false) = some r := by rw [if_neg (show ¬ (false = true) by decide)] at H; exact H
      clear H
      have H := H1
      clear H1
      obtain rfl := Option.some.inj H
      go_enter Try.func42, Try.ntmps42
      go_wp2_with (first | ((with_reducible refine gate_callee (f := 41) rfl ?_); refine goesL_ (some 13) rfl rfl Try.func41 (by kernel_rfl) rfl #[.string a0] rfl (by (try simp only [List.map_toArray, List.map_cons, List.map_nil]); first | done | rfl | (simp only [List.length_drop, List.length_take]; rfl)) ?_; (with_reducible refine (styluslaw19_of.calls k a0 t149 _ A4.out).mono ?_); rintro e w26 ⟨v150, rfl, ho0, hb⟩; refine ⟨_, rfl, ?_⟩; have n0_ := Aside0.mk (Kd.R_lower ho0 (below_size (by repeat (first | (with_reducible first | exact HB.out | apply below_alloc | apply pw_below_drewN | apply below_drew1) | exact HB.out)))); have n1_ := Aside0.mk (below_step (by repeat (first | (with_reducible first | exact HB.out | apply below_alloc | apply pw_below_drewN | apply below_drew1) | exact HB.out)) hb); clear HB; have HO151 := n0_; have HB := n1_; clear n0_ n1_; (try clear hb); (try clear hb2); (try clear hk); (try clear hi); (try clear ho0); obtain ⟨Ao27, co27, eo27⟩ := Kd.R_slice HO151.out; subst eo27) | ((with_reducible refine gate_callee (f := 13) rfl ?_); refine goesL_ (some 14) rfl rfl Try.func13 (by kernel_rfl) rfl #[.slice Ao27 t149.length co27, .int .i64 30] rfl (by (try simp only [List.map_toArray, List.map_cons, List.map_nil]); first | done | rfl | (simp only [List.length_drop, List.length_take]; rfl)) ?_; (with_reducible refine (best_Of.calls _ _ t149 30 t152 t153 _ ?side1 ?side2 A5.out).mono ?_); (case side1 => repeat (first | exact (Kd.R_reads' HO151.out).2.2 | (with_reducible refine Kd.C_alloc ?_ _) | (with_reducible refine Kd.C_drewN ?_ _) | (with_reducible refine Kd.C_drew ?_))); (case side2 => exact (Kd.R_reads' HO151.out).2.1); rintro e w28 ⟨v154, rfl, ho0, hb⟩; refine ⟨_, rfl, ?_⟩; have n0_ := Aside0.mk (Kd.R_below (by (with_reducible repeat (first | apply Kd.R_alloc | apply Kd.R_drewN | apply Kd.R_drew)); exact HO151.out) hb); have n1_ := Aside0.mk (Kd.R_lower ho0 (below_size (by repeat (first | (with_reducible first | exact HB.out | apply below_alloc | apply pw_below_drewN | apply below_drew1) | exact HB.out)))); have n2_ := Aside0.mk (below_step (by repeat (first | (with_reducible first | exact HB.out | apply below_alloc | apply pw_below_drewN | apply below_drew1) | exact HB.out)) hb); clear HO151; clear HB; have HO151 := n0_; have HO155 := n1_; have HB := n2_; clear n0_ n1_ n2_; (try clear hb); (try clear hb2); (try clear hk); (try clear hi); (try clear ho0)) | ((with_reducible refine gate_callee (f := 41) rfl ?_); refine goesL_ (some 19) rfl rfl Try.func41 (by kernel_rfl) rfl #[.string a0] rfl (by (try simp only [List.map_toArray, List.map_cons, List.map_nil]); first | done | rfl | (simp only [List.length_drop, List.length_take]; rfl)) ?_; (with_reducible refine (styluslaw19_of.calls k a0 t156 _ A6.out).mono ?_); rintro e w29 ⟨v157, rfl, ho0, hb⟩; refine ⟨_, rfl, ?_⟩; have n0_ := Aside0.mk (Kd.R_elder' (by (with_reducible repeat (first | apply Kd.R_alloc | apply Kd.R_drewN | apply Kd.R_drew)); exact HO151.out) (Kd.R_base ho0) hb); have n1_ := Aside0.mk (Kd.R_below (by (with_reducible repeat (first | apply Kd.R_alloc | apply Kd.R_drewN | apply Kd.R_drew)); exact HO155.out) hb); have n2_ := Aside0.mk (Kd.R_lower (Kd.R_new' ho0 (Kd.R_lt (by (with_reducible repeat (first | apply Kd.R_alloc | apply Kd.R_drewN | apply Kd.R_drew)); exact HO151.out))) (below_size (by repeat (first | (with_reducible first | exact HB.out | apply below_alloc | apply pw_below_drewN | apply below_drew1) | exact HB.out)))); have n3_ := Aside0.mk (below_step (by repeat (first | (with_reducible first | exact HB.out | apply below_alloc | apply pw_below_drewN | apply below_drew1) | exact HB.out)) hb); clear HO151; clear HO155; clear HB; have HO151 := n0_; have HO155 := n1_; have HO158 := n2_; have HB := n3_; clear n0_ n1_ n2_ n3_; (try clear hb); (try clear hb2); (try clear hk); (try clear hi); (try clear ho0); obtain ⟨Ao30, co30, eo30⟩ := Kd.R_slice HO158.out; subst eo30) | ((with_reducible refine gate_callee (f := 21) rfl ?_); refine goesL_ (some 21) rfl rfl Try.func21 (by kernel_rfl) rfl #[.slice Ao30 t156.length co30, .int .i64 30, .slice A2 l2.length c2] rfl (by (try simp only [List.map_toArray, List.map_cons, List.map_nil]); first | done | rfl | (simp only [List.length_drop, List.length_take]; rfl)) ?_; (with_reducible refine (best_Demerits.calls _ _ t156 30 _ _ l2 t159 t160 _ ?side1 ?side2 ?side3 ?side4 A7.out).mono ?_); (case side1 => repeat (first | exact (Kd.R_reads' HO158.out).2.2 | (with_reducible refine Kd.C_alloc ?_ _) | (with_reducible refine Kd.C_drewN ?_ _) | (with_reducible refine Kd.C_drew ?_))); (case side2 => exact (Kd.R_reads' HO158.out).2.1); (case side3 => repeat (first | exact (Kd.C_below HR2.out HB.out) | (with_reducible refine Kd.C_alloc ?_ _) | (with_reducible refine Kd.C_drewN ?_ _) | (with_reducible refine Kd.C_drew ?_))); (case side4 => exact HC2.out); rintro e w31 ⟨rfl, hb⟩; refine ⟨_, rfl, ?_⟩; have n0_ := Aside0.mk (Kd.R_below (by (with_reducible repeat (first | apply Kd.R_alloc | apply Kd.R_drewN | apply Kd.R_drew)); exact HO151.out) hb); have n1_ := Aside0.mk (Kd.R_below (by (with_reducible repeat (first | apply Kd.R_alloc | apply Kd.R_drewN | apply Kd.R_drew)); exact HO155.out) hb); have n2_ := Aside0.mk (Kd.R_below (by (with_reducible repeat (first | apply Kd.R_alloc | apply Kd.R_drewN | apply Kd.R_drew)); exact HO158.out) hb); have n3_ := Aside0.mk (below_step (by repeat (first | (with_reducible first | exact HB.out | apply below_alloc | apply pw_below_drewN | apply below_drew1) | exact HB.out)) hb); clear HO151; clear HO155; clear HO158; clear HB; have HO151 := n0_; have HO155 := n1_; have HO158 := n2_; have HB := n3_; clear n0_ n1_ n2_ n3_; (try clear hb); (try clear hb2); (try clear hk); (try clear hi); obtain ⟨Ao32, co32, eo32⟩ := Kd.R_slice HO155.out; subst eo32) | (go_at_call 15; (with_reducible refine (styluslaw19_same.calls k _ _ t152 _ _ l2 false _ ?side1 ?side2 ?side3 ?side4 A9.out).mono ?_); (case side1 => repeat (first | exact (Kd.R_reads' HO155.out).2.2 | (with_reducible refine Kd.C_alloc ?_ _) | (with_reducible refine Kd.C_drewN ?_ _) | (with_reducible refine Kd.C_drew ?_))); (case side2 => exact (Kd.R_reads' HO155.out).2.1); (case side3 => repeat (first | exact (Kd.C_below HR2.out HB.out) | (with_reducible refine Kd.C_alloc ?_ _) | (with_reducible refine Kd.C_drewN ?_ _) | (with_reducible refine Kd.C_drew ?_))); (case side4 => exact HC2.out); rintro e w' ⟨rfl, ⟨nd, rfl⟩⟩))
      go_ret
      exact ⟨by first | rfl | (simp [errW_none, errW_some] <;> rfl) | (simp [*, errW_none, errW_some] <;> rfl), by repeat (first | (with_reducible first | exact HB.out | apply below_alloc | apply pw_below_drewN | apply below_drew1) | exact HB.out)⟩
  · rw [if_neg c8] at H
    have c8b0 : (t153 == 0) = false := beq_eq_false_iff_ne.mpr c8
    have c8b1 : (t153 != 0) = true := bne_iff_ne.mpr c8
    obtain rfl := Option.some.inj H
    go_enter Try.func42, Try.ntmps42
    go_wp2_with (first | ((with_reducible refine gate_callee (f := 41) rfl ?_); refine goesL_ (some 13) rfl rfl Try.func41 (by kernel_rfl) rfl #[.string a0] rfl (by (try simp only [List.map_toArray, List.map_cons, List.map_nil]); first | done | rfl | (simp only [List.length_drop, List.length_take]; rfl)) ?_; (with_reducible refine (styluslaw19_of.calls k a0 t149 _ A4.out).mono ?_); rintro e w33 ⟨v150, rfl, ho0, hb⟩; refine ⟨_, rfl, ?_⟩; have n0_ := Aside0.mk (Kd.R_lower ho0 (below_size (by repeat (first | (with_reducible first | exact HB.out | apply below_alloc | apply pw_below_drewN | apply below_drew1) | exact HB.out)))); have n1_ := Aside0.mk (below_step (by repeat (first | (with_reducible first | exact HB.out | apply below_alloc | apply pw_below_drewN | apply below_drew1) | exact HB.out)) hb); clear HB; have HO151 := n0_; have HB := n1_; clear n0_ n1_; (try clear hb); (try clear hb2); (try clear hk); (try clear hi); (try clear ho0); obtain ⟨Ao34, co34, eo34⟩ := Kd.R_slice HO151.out; subst eo34) | ((with_reducible refine gate_callee (f := 13) rfl ?_); refine goesL_ (some 14) rfl rfl Try.func13 (by kernel_rfl) rfl #[.slice Ao34 t149.length co34, .int .i64 30] rfl (by (try simp only [List.map_toArray, List.map_cons, List.map_nil]); first | done | rfl | (simp only [List.length_drop, List.length_take]; rfl)) ?_; (with_reducible refine (best_Of.calls _ _ t149 30 t152 t153 _ ?side1 ?side2 A5.out).mono ?_); (case side1 => repeat (first | exact (Kd.R_reads' HO151.out).2.2 | (with_reducible refine Kd.C_alloc ?_ _) | (with_reducible refine Kd.C_drewN ?_ _) | (with_reducible refine Kd.C_drew ?_))); (case side2 => exact (Kd.R_reads' HO151.out).2.1); rintro e w35 ⟨v154, rfl, ho0, hb⟩; refine ⟨_, rfl, ?_⟩; have n0_ := Aside0.mk (Kd.R_below (by (with_reducible repeat (first | apply Kd.R_alloc | apply Kd.R_drewN | apply Kd.R_drew)); exact HO151.out) hb); have n1_ := Aside0.mk (Kd.R_lower ho0 (below_size (by repeat (first | (with_reducible first | exact HB.out | apply below_alloc | apply pw_below_drewN | apply below_drew1) | exact HB.out)))); have n2_ := Aside0.mk (below_step (by repeat (first | (with_reducible first | exact HB.out | apply below_alloc | apply pw_below_drewN | apply below_drew1) | exact HB.out)) hb); clear HO151; clear HB; have HO151 := n0_; have HO155 := n1_; have HB := n2_; clear n0_ n1_ n2_; (try clear hb); (try clear hb2); (try clear hk); (try clear hi); (try clear ho0)) | ((with_reducible refine gate_callee (f := 41) rfl ?_); refine goesL_ (some 19) rfl rfl Try.func41 (by kernel_rfl) rfl #[.string a0] rfl (by (try simp only [List.map_toArray, List.map_cons, List.map_nil]); first | done | rfl | (simp only [List.length_drop, List.length_take]; rfl)) ?_; (with_reducible refine (styluslaw19_of.calls k a0 t156 _ A6.out).mono ?_); rintro e w36 ⟨v157, rfl, ho0, hb⟩; refine ⟨_, rfl, ?_⟩; have n0_ := Aside0.mk (Kd.R_elder' (by (with_reducible repeat (first | apply Kd.R_alloc | apply Kd.R_drewN | apply Kd.R_drew)); exact HO151.out) (Kd.R_base ho0) hb); have n1_ := Aside0.mk (Kd.R_below (by (with_reducible repeat (first | apply Kd.R_alloc | apply Kd.R_drewN | apply Kd.R_drew)); exact HO155.out) hb); have n2_ := Aside0.mk (Kd.R_lower (Kd.R_new' ho0 (Kd.R_lt (by (with_reducible repeat (first | apply Kd.R_alloc | apply Kd.R_drewN | apply Kd.R_drew)); exact HO151.out))) (below_size (by repeat (first | (with_reducible first | exact HB.out | apply below_alloc | apply pw_below_drewN | apply below_drew1) | exact HB.out)))); have n3_ := Aside0.mk (below_step (by repeat (first | (with_reducible first | exact HB.out | apply below_alloc | apply pw_below_drewN | apply below_drew1) | exact HB.out)) hb); clear HO151; clear HO155; clear HB; have HO151 := n0_; have HO155 := n1_; have HO158 := n2_; have HB := n3_; clear n0_ n1_ n2_ n3_; (try clear hb); (try clear hb2); (try clear hk); (try clear hi); (try clear ho0); obtain ⟨Ao37, co37, eo37⟩ := Kd.R_slice HO158.out; subst eo37) | ((with_reducible refine gate_callee (f := 21) rfl ?_); refine goesL_ (some 21) rfl rfl Try.func21 (by kernel_rfl) rfl #[.slice Ao37 t156.length co37, .int .i64 30, .slice A2 l2.length c2] rfl (by (try simp only [List.map_toArray, List.map_cons, List.map_nil]); first | done | rfl | (simp only [List.length_drop, List.length_take]; rfl)) ?_; (with_reducible refine (best_Demerits.calls _ _ t156 30 _ _ l2 t159 t160 _ ?side1 ?side2 ?side3 ?side4 A7.out).mono ?_); (case side1 => repeat (first | exact (Kd.R_reads' HO158.out).2.2 | (with_reducible refine Kd.C_alloc ?_ _) | (with_reducible refine Kd.C_drewN ?_ _) | (with_reducible refine Kd.C_drew ?_))); (case side2 => exact (Kd.R_reads' HO158.out).2.1); (case side3 => repeat (first | exact (Kd.C_below HR2.out HB.out) | (with_reducible refine Kd.C_alloc ?_ _) | (with_reducible refine Kd.C_drewN ?_ _) | (with_reducible refine Kd.C_drew ?_))); (case side4 => exact HC2.out); rintro e w38 ⟨rfl, hb⟩; refine ⟨_, rfl, ?_⟩; have n0_ := Aside0.mk (Kd.R_below (by (with_reducible repeat (first | apply Kd.R_alloc | apply Kd.R_drewN | apply Kd.R_drew)); exact HO151.out) hb); have n1_ := Aside0.mk (Kd.R_below (by (with_reducible repeat (first | apply Kd.R_alloc | apply Kd.R_drewN | apply Kd.R_drew)); exact HO155.out) hb); have n2_ := Aside0.mk (Kd.R_below (by (with_reducible repeat (first | apply Kd.R_alloc | apply Kd.R_drewN | apply Kd.R_drew)); exact HO158.out) hb); have n3_ := Aside0.mk (below_step (by repeat (first | (with_reducible first | exact HB.out | apply below_alloc | apply pw_below_drewN | apply below_drew1) | exact HB.out)) hb); clear HO151; clear HO155; clear HO158; clear HB; have HO151 := n0_; have HO155 := n1_; have HO158 := n2_; have HB := n3_; clear n0_ n1_ n2_ n3_; (try clear hb); (try clear hb2); (try clear hk); (try clear hi)))
    go_ret
    exact ⟨by first | rfl | (simp [errW_none, errW_some] <;> rfl) | (simp [*, errW_none, errW_some] <;> rfl), by repeat (first | (with_reducible first | exact HB.out | apply below_alloc | apply pw_below_drewN | apply below_drew1) | exact HB.out)⟩

end Go.Proofs.Ytbddfnmhhmkfkaa.Pr
