/- Texts of this seat, one behind the other. -/
import Derived.Lib.Hide
import Derived.Test.YtbddfnmhhmkfkaaXLinesExact1
import Derived.Test.YtbddfnmhhmkfkaaXLinesExact2
namespace Go.Proofs.Ytbddfnmhhmkfkaa.Pr
set_option linter.unusedVariables false
set_option linter.unusedSimpArgs false
open Go.RowKit Go.Proofs.YtbddfnmhhmkfkaaW.PrintWords Go.Proofs.YtbddfnmhhmkfkaaW.PrintLast Go.Proofs.YtbddfnmhhmkfkaaW.PrintMore
theorem w64 {n : Int} (h0 : -9223372036854775808 ≤ n) (h1 : n ≤ 9223372036854775807) : wrap64 n = n := by unfold wrap64; omega
structure OkItem (x : S43) : Prop where
 k1 : 1 ≤ x.f0
 k4 : x.f0 ≤ 4
 w0 : 0 ≤ x.f1
 w1 : x.f1 ≤ 2000
 y0 : 0 ≤ x.f2
 y1 : x.f2 ≤ 2000
 z0 : 0 ≤ x.f3
 z1 : x.f3 ≤ 2000
theorem odd_ok {x : S43} (h : oddP x = false) : OkItem x := by
 simp only [oddP, farP, Bool.or_eq_false_iff, decide_eq_false_iff_not] at h
 obtain ⟨⟨⟨⟨h1, h2⟩, h3, h4⟩, h5, h6⟩, h7, h8⟩ := h
 exact ⟨by omega, by omega, by omega, by omega, by omega, by omega, by omega, by omega⟩
structure OkL (l : List S43) (w : Int) : Prop where
 len : l.length ≤ 16384
 item : ∀ x ∈ l, OkItem x
 w0 : 1 ≤ w
 w1 : w ≤ 1000000
theorem check_01 (l : List S43) (w : Int) : checkP l w = 0 ∨ checkP l w = 1 := by
 unfold checkP; split <;> simp
theorem check_ok {l : List S43} {w : Int} (h : checkP l w = 0) : OkL l w := by
 unfold checkP at h
 split at h
 ·cases h
 ·rename_i h1
  refine ⟨by omega, fun x hx => odd_ok ?_, by omega, by omega⟩
  cases ho : oddP x with
  | false => rfl
  | true => exact absurd (.inr (.inr (.inr (List.any_eq_true.2 ⟨x, hx, ho⟩)))) h1
def gN (x : S43) : Int := if x.f0 = 3 then 0 else x.f1
def gY (x : S43) : Int := if x.f0 = 2 then x.f2 else 0
def gZ (x : S43) : Int := if x.f0 = 2 then x.f3 else 0
def nS (g : S43 → Int) (l : List S43) (k : Nat) : Int := ((l.take k).map g).sum
theorem nS_succ (g : S43 → Int) (l : List S43) (k : Nat) (x : S43) (h : l[k]? = some x) : nS g l (k + 1) = nS g l k + g x := by
 unfold nS
 rw [List.take_add_one, h]
 simp
theorem rd_get {l : List S43} {k : Nat} (h : k < l.length) : l[k]? = some (rd_T43 l k) := by
 unfold rd_T43
 rw [Int.toNat_natCast, List.getD_eq_getElem?_getD, List.getElem?_eq_getElem h]
 rfl
theorem rd_ok {l : List S43} {w : Int} (ok : OkL l w) {k : Nat} (h : k < l.length) : OkItem (rd_T43 l k) := ok.item _ (List.mem_of_getElem? (rd_get h))
theorem nS_next {l : List S43} (g : S43 → Int) {k : Nat} (h : k < l.length) : nS g l (k + 1) = nS g l k + g (rd_T43 l k) := nS_succ g l k _ (rd_get h)
theorem g_bd {x : S43} (h : OkItem x) : (0 ≤ gN x ∧ gN x ≤ 2000) ∧ (0 ≤ gY x ∧ gY x ≤ 2000) ∧ (0 ≤ gZ x ∧ gZ x ≤ 2000) := by
 obtain ⟨a, b, c, d, e, f, g, i⟩ := h
 refine ⟨?_, ?_, ?_⟩
 ·unfold gN; split <;> omega
 ·unfold gY; split <;> omega
 ·unfold gZ; split <;> omega
theorem nS_bd {l : List S43} {w : Int} (ok : OkL l w) (g : S43 → Int) (hg : ∀ x, OkItem x → 0 ≤ g x ∧ g x ≤ 2000) : ∀ k : Nat, k ≤ l.length → 0 ≤ nS g l k ∧ nS g l k ≤ 2000 * k
 | 0, _ => by simp [nS]
 | k + 1, h => by
  have ih := nS_bd ok g hg k (by omega)
  have := hg _ (rd_ok ok (show k < l.length by omega))
  rw [nS_next g (by omega)]
  omega
theorem nS_mono {l : List S43} {w : Int} (ok : OkL l w) (g : S43 → Int) (hg : ∀ x, OkItem x → 0 ≤ g x ∧ g x ≤ 2000) (i : Nat) : ∀ d : Nat, i + d ≤ l.length → nS g l i ≤ nS g l (i + d)
 | 0, _ => Int.le_refl _
 | d + 1, h => by
  have ih := nS_mono ok g hg i d (by omega)
  have := hg _ (rd_ok ok (show i + d < l.length by omega))
  rw [show i + (d + 1) = (i + d) + 1 by omega, nS_next g (by omega)]
  omega
theorem sumAt_ok {l : List S43} {w : Int} (ok : OkL l w) : ∀ k : Nat, k ≤ l.length → sumAt l k = ⟨nS gN l k, nS gY l k, nS gZ l k⟩
 | 0, _ => rfl
 | k + 1, h => by
  have hk : k < l.length := by omega
  have ho := rd_ok ok hk
  obtain ⟨b1, b2, b3⟩ := g_bd ho
  have n1 := nS_bd ok gN (fun x hx => (g_bd hx).1) k (by omega)
  have n2 := nS_bd ok gY (fun x hx => (g_bd hx).2.1) k (by omega)
  have n3 := nS_bd ok gZ (fun x hx => (g_bd hx).2.2) k (by omega)
  have hl := ok.len
  rw [sumAt_succ l k _ (rd_get hk), sumAt_ok ok k (by omega), nS_next gN hk, nS_next gY hk, nS_next gZ hk]
  generalize rd_T43 l k = x at *
  obtain ⟨o1, o2, o3, o4, o5, o6, o7, o8⟩ := ho
  generalize nS gN l k = a1 at *
  generalize nS gY l k = a2 at *
  generalize nS gZ l k = a3 at *
  simp only [sumP, gN, gY, gZ] at *
  by_cases h2 : x.f0 = 2
  ·simp only [h2, if_true] at *
   rw [if_neg (by omega)]
   rw [w64 (by omega) (by omega), w64 (by omega) (by omega), w64 (by omega) (by omega)]
  ·by_cases h3 : x.f0 = 3
   ·simp only [h3, if_true] at *
    simp
   ·rw [if_neg h2, if_pos (by omega), if_neg h3, if_neg h2, if_neg h2, w64 (by omega) (by omega), Int.add_zero, Int.add_zero]
theorem sums_len (l : List S43) (k : Nat) : (sumsTo l k).length = k + 1 := by simp [sumsTo]
theorem rd_sums (l : List S43) (n k : Nat) (h : k ≤ n) : rd_T85 (sumsTo l n) k = sumAt l k := by
 unfold rd_T85 sumsTo
 rw [Int.toNat_natCast, List.getD_eq_getElem?_getD, List.getElem?_map, List.getElem?_range (by omega)]
 rfl
def hyphP (l : List S43) (a : Int) : Bool := decide (0 ≤ a) && decide (a < l.length) && ((rd_T43 l a).f0 == 3)
def placeP (l : List S43) (a : Int) : Bool := decide (a = l.length) || (decide (0 ≤ a) && decide (a < l.length) && (((rd_T43 l a).f0 == 3) || ((rd_T43 l a).f0 == 2)))
def legalP (l : List S43) (a b : Int) : Bool := !hyphP l a || !hyphP l b
theorem hyphen_f (l : List S43) (w : Int) (s : List S85) (a : Int) : best_flow_hyphen.f l w s a = some (hyphP l a) := by
 unfold best_flow_hyphen.f hyphP
 by_cases h1 : 0 ≤ a
 ·by_cases h2 : a < l.length
  ·simp [h1, h2]
  ·simp [h1, h2]
 ·simp [h1]
theorem place_f (l : List S43) (w : Int) (s : List S85) (a : Int) : best_flow_place.f l w s a = some (placeP l a) := by
 unfold best_flow_place.f placeP
 rw [hyphen_f]
 unfold hyphP
 by_cases h0 : a = l.length
 ·simp [h0]
 ·by_cases h1 : 0 ≤ a
  ·by_cases h2 : a < l.length
   ·by_cases h3 : (rd_T43 l a).f0 = 3
    ·simp [h0, h1, h2, h3]
    ·simp [h0, h1, h2, h3]
   ·simp [h0, h1, h2]
  ·simp [h0, h1]
theorem legal_f (l : List S43) (w : Int) (s : List S85) (a b : Int) : best_flow_legal.f l w s a b = some (legalP l a b) := by
 unfold best_flow_legal.f legalP
 rw [hyphen_f, hyphen_f]
 cases hyphP l a <;> cases hyphP l b <;> rfl
theorem place_le {l : List S43} {a : Int} (h : placeP l a = true) : 0 ≤ a ∧ a ≤ l.length := by
 simp only [placeP, Bool.or_eq_true, Bool.and_eq_true, decide_eq_true_eq] at h
 omega
theorem hyph_neg (l : List S43) {a : Int} (h : a < 0) : hyphP l a = false := by
 have : ¬ 0 ≤ a := by omega
 simp [hyphP, this]
theorem legal_neg (l : List S43) (b : Int) : legalP l (-1) b = true := by unfold legalP; rw [hyph_neg l (by omega)]; rfl
def lineN (l : List S43) (f t : Int) : Int := nS gN l t.toNat - nS gN l (f + 1).toNat + if hyphP l t = true then (rd_T43 l t).f1 else 0
def lineY (l : List S43) (f t : Int) : Int := nS gY l t.toNat - nS gY l (f + 1).toNat
def lineZ (l : List S43) (f t : Int) : Int := nS gZ l t.toNat - nS gZ l (f + 1).toNat
def quo (a b : Int) : Int := if b = 0 then 1024 else mn (a * 128 / b) 1024
def rateOf (w n y z : Int) (last : Bool) : Int := if n = w ∨ n < w ∧ last = true then 0 else if n < w then quo (w - n) y else quo (n - w) z
def rateP (l : List S43) (w f t : Int) : Int := rateOf w (lineN l f t) (lineY l f t) (lineZ l f t) (t == (l.length : Int))
def overP (l : List S43) (w f t : Int) : Bool := decide (lineN l f t - lineZ l f t > w)
def costOf (r : Int) (h o : Bool) : Int := (10 + mn (100 * r * r * r / 2097152) 10000) * (10 + mn (100 * r * r * r / 2097152) 10000) + (if h = true then 2500 else 0) + if o = true then 1000000000000 else 0
def costP (l : List S43) (w f t : Int) : Int := costOf (rateP l w f t) (hyphP l t) (overP l w f t)
theorem mn_le (a b : Int) : mn a b ≤ a ∧ mn a b ≤ b := by unfold mn; split <;> omega
theorem mn_ge {a b c : Int} (h : c ≤ a) (h' : c ≤ b) : c ≤ mn a b := by unfold mn; split <;> omega
theorem quo_bd {a b : Int} (ha : 0 ≤ a) (hb : 0 ≤ b) : 0 ≤ quo a b ∧ quo a b ≤ 1024 := by
 unfold quo
 split
 ·omega
 ·exact ⟨mn_ge (Int.ediv_nonneg (by omega) hb) (by omega), (mn_le _ _).2⟩
theorem line_bd {l : List S43} {w : Int} (ok : OkL l w) {f t : Int} (h0 : -1 ≤ f) (h1 : f < t) (h2 : t ≤ l.length) :
  (0 ≤ lineN l f t ∧ lineN l f t ≤ 32770000) ∧ (0 ≤ lineY l f t ∧ lineY l f t ≤ 32770000) ∧ (0 ≤ lineZ l f t ∧ lineZ l f t ≤ 32770000) := by
 have hl := ok.len
 obtain ⟨i, hi⟩ : ∃ i : Nat, f + 1 = i := ⟨(f + 1).toNat, by omega⟩
 obtain ⟨d, hd⟩ : ∃ d : Nat, t = ((i + d : Nat) : Int) := ⟨(t - (f + 1)).toNat, by omega⟩
 unfold lineN lineY lineZ
 rw [hi, hd]
 simp only [Int.toNat_natCast]
 have m1 := nS_mono ok gN (fun x hx => (g_bd hx).1) i d (by omega)
 have m2 := nS_mono ok gY (fun x hx => (g_bd hx).2.1) i d (by omega)
 have m3 := nS_mono ok gZ (fun x hx => (g_bd hx).2.2) i d (by omega)
 have n1 := nS_bd ok gN (fun x hx => (g_bd hx).1) (i + d) (by omega)
 have n2 := nS_bd ok gY (fun x hx => (g_bd hx).2.1) (i + d) (by omega)
 have n3 := nS_bd ok gZ (fun x hx => (g_bd hx).2.2) (i + d) (by omega)
 have p1 := nS_bd ok gN (fun x hx => (g_bd hx).1) i (by omega)
 have p2 := nS_bd ok gY (fun x hx => (g_bd hx).2.1) i (by omega)
 have p3 := nS_bd ok gZ (fun x hx => (g_bd hx).2.2) i (by omega)
 refine ⟨?_, by omega, by omega⟩
 split
 ·rename_i hh
  simp only [hyphP, Bool.and_eq_true, decide_eq_true_eq] at hh
  have := rd_ok ok (k := i + d) (by omega)
  have h3 := this.w0
  have h4 := this.w1
  omega
 ·omega
theorem rate_bd {w n y z : Int} (h0 : 0 ≤ y) (h1 : 0 ≤ z) (b : Bool) : 0 ≤ rateOf w n y z b ∧ rateOf w n y z b ≤ 1024 := by
 unfold rateOf
 split
 ·omega
 ·split
  ·exact quo_bd (by omega) h0
  ·exact quo_bd (by omega) h1
theorem rateP_bd {l : List S43} {w : Int} (ok : OkL l w) {f t : Int} (h0 : -1 ≤ f) (h1 : f < t) (h2 : t ≤ l.length) : 0 ≤ rateP l w f t ∧ rateP l w f t ≤ 1024 := by
 obtain ⟨_, b2, b3⟩ := line_bd ok h0 h1 h2
 exact rate_bd b2.1 b3.1 _
theorem cube_bd {r : Int} (h0 : 0 ≤ r) (h1 : r ≤ 1024) : (0 ≤ 100 * r ∧ 100 * r ≤ 102400) ∧ (0 ≤ 100 * r * r ∧ 100 * r * r ≤ 104857600) ∧ (0 ≤ 100 * r * r * r ∧ 100 * r * r * r ≤ 107374182400) := by
 have a1 : 0 ≤ 100 * r ∧ 100 * r ≤ 102400 := by omega
 have a2 : 0 ≤ 100 * r * r := Int.mul_nonneg a1.1 h0
 have a3 : 100 * r * r ≤ 102400 * 1024 := Int.mul_le_mul a1.2 h1 h0 (by omega)
 have a4 : 0 ≤ 100 * r * r * r := Int.mul_nonneg a2 h0
 have a5 : 100 * r * r * r ≤ 102400 * 1024 * 1024 := Int.mul_le_mul a3 h1 h0 (by omega)
 exact ⟨a1, ⟨a2, by omega⟩, ⟨a4, by omega⟩⟩
theorem bad_bd {r : Int} (h0 : 0 ≤ r) (h1 : r ≤ 1024) : 0 ≤ mn (100 * r * r * r / 2097152) 10000 ∧ mn (100 * r * r * r / 2097152) 10000 ≤ 10000 := by
 obtain ⟨_, _, b⟩ := cube_bd h0 h1
 exact ⟨mn_ge (by omega) (by omega), (mn_le _ _).2⟩
theorem sq_bd {b : Int} (h0 : 0 ≤ b) (h1 : b ≤ 10000) : 100 ≤ (10 + b) * (10 + b) ∧ (10 + b) * (10 + b) ≤ 100200100 := by
 have h2 : (10 : Int) * 10 ≤ (10 + b) * (10 + b) := Int.mul_le_mul (by omega) (by omega) (by omega) (by omega)
 have h3 : (10 + b) * (10 + b) ≤ 10010 * 10010 := Int.mul_le_mul (by omega) (by omega) (by omega) (by omega)
 omega
theorem cost_bd {r : Int} (h0 : 0 ≤ r) (h1 : r ≤ 1024) (h o : Bool) : 100 ≤ costOf r h o ∧ costOf r h o ≤ 1000100202600 := by
 obtain ⟨b0, b1⟩ := bad_bd h0 h1
 have := sq_bd b0 b1
 unfold costOf
 split <;> split <;> omega
theorem costP_bd {l : List S43} {w : Int} (ok : OkL l w) {f t : Int} (h0 : -1 ≤ f) (h1 : f < t) (h2 : t ≤ l.length) : 100 ≤ costP l w f t ∧ costP l w f t ≤ 1000100202600 := by
 have := rateP_bd ok h0 h1 h2
 exact cost_bd this.1 this.2 _ _
theorem line_spec {l : List S43} {w : Int} (ok : OkL l w) {f t : Int} (h0 : -1 ≤ f) (h1 : f < t) (h2 : t ≤ l.length) (k : Nat) :
  bfl.f (k + 2) l w (sumsTo l l.length) f t = some (lineN l f t, lineY l f t, lineZ l f t, rateP l w f t, overP l w f t) := by
 have hl := ok.len
 have hw0 := ok.w0
 have hw1 := ok.w1
 obtain ⟨i, hi⟩ : ∃ i : Nat, f + 1 = i := ⟨(f + 1).toNat, by omega⟩
 obtain ⟨j, rfl⟩ : ∃ j : Nat, t = j := ⟨t.toNat, by omega⟩
 have hii : i ≤ j := by omega
 obtain ⟨bN, bY, bZ⟩ := line_bd ok h0 h1 h2
 have n1 := nS_bd ok gN (fun x hx => (g_bd hx).1) j (by omega)
 have n2 := nS_bd ok gY (fun x hx => (g_bd hx).2.1) j (by omega)
 have n3 := nS_bd ok gZ (fun x hx => (g_bd hx).2.2) j (by omega)
 have p1 := nS_bd ok gN (fun x hx => (g_bd hx).1) i (by omega)
 have p2 := nS_bd ok gY (fun x hx => (g_bd hx).2.1) i (by omega)
 have p3 := nS_bd ok gZ (fun x hx => (g_bd hx).2.2) i (by omega)
 have hrate := rateP_bd ok h0 h1 h2
 unfold bfl.f best_sums_less.f
 rw [if_pos (by omega), if_pos (by rw [sums_len]; omega), w64 (n := f + 1) (by omega) (by omega), hi, if_pos (by omega), if_pos (by rw [sums_len]; omega)]
 rw [rd_sums l l.length j (by omega), rd_sums l l.length i (by omega), sumAt_ok ok j (by omega), sumAt_ok ok i (by omega)]
 simp only [Option.bind_some, hyphen_f]
 have tail : ∀ n y z : Int, (0 ≤ n ∧ n ≤ 32770000) → (0 ≤ y ∧ y ≤ 32770000) → (0 ≤ z ∧ z ≤ 32770000) →
   bfl.j0 (k + 2) j l w (sumsTo l l.length) n y z 0 false = some (n, y, z, rateOf w n y z ((j : Int) == (l.length : Int)), decide (n - z > w)) := by
  intro n y z hn hy hz
  simp only [bfl.j0]
  have e1 : wrap64 (w - n) = w - n := w64 (by omega) (by omega)
  have e2 : wrap64 (-(w - n)) = n - w := by rw [w64 (by omega) (by omega)]; omega
  have e3 : wrap64 (n - z) = n - z := w64 (by omega) (by omega)
  have fin : ∀ g r : Int, (0 ≤ g ∧ g ≤ 32770000) → 0 ≤ r → bfl.j1 (k + 1) g r l w (sumsTo l l.length) n y z 0 false = some (n, y, z, (if g = 0 then 0 else quo g r), decide (n - z > w)) := by
   intro g r hg hr
   simp only [bfl.j1]
   rw [e3]
   by_cases h : g = 0
   ·rw [if_pos h, if_pos h]
   ·rw [if_neg h, if_neg h]
    unfold quo
    by_cases h' : r = 0
    ·rw [if_pos h', if_pos h']
    ·rw [if_neg h', if_neg h', w64 (n := g * 128) (by omega) (by omega)]
     have q1 : (g * 128).tdiv r = g * 128 / r := Int.tdiv_eq_ediv_of_nonneg (by omega)
     have q2 : 0 ≤ g * 128 / r := Int.ediv_nonneg (by omega) hr
     have q3 : g * 128 / r ≤ g * 128 := Int.ediv_le_self _ (by omega)
     rw [q1, w64 (by omega) (by omega)]
  rw [e1]
  by_cases c1 : w - n < 0
  ·rw [if_pos c1, e2, fin _ _ (by omega) hz.1]
   unfold rateOf
   rw [if_neg (by omega), if_neg (by omega), if_neg (by omega)]
  ·rw [if_neg c1]
   by_cases c2 : (j : Int) = l.length
   ·rw [if_pos c2, fin _ _ (by omega) hy.1]
    unfold rateOf
    rw [if_pos rfl, if_pos (by simp [c2]; omega)]
   ·rw [if_neg c2, fin _ _ (by omega) hy.1]
    unfold rateOf
    by_cases c3 : w - n = 0
    ·rw [if_pos c3, if_pos (by omega)]
    ·rw [if_neg c3, if_neg (by simp [c2]; omega), if_pos (by omega)]
 have r0 := tail (lineN l f j) (lineY l f j) (lineZ l f j) bN bY bZ
 unfold rateP overP
 rw [← r0]
 have eY : wrap64 (nS gY l j - nS gY l i) = lineY l f j := by
  unfold lineY; rw [hi]; simp only [Int.toNat_natCast]; exact w64 (by omega) (by omega)
 have eZ : wrap64 (nS gZ l j - nS gZ l i) = lineZ l f j := by
  unfold lineZ; rw [hi]; simp only [Int.toNat_natCast]; exact w64 (by omega) (by omega)
 rw [eY, eZ]
 unfold lineN at bN ⊢
 rw [hi] at bN ⊢
 simp only [Int.toNat_natCast] at bN ⊢
 rw [w64 (n := nS gN l j - nS gN l i) (by omega) (by omega)]
 by_cases hh : hyphP l j = true
 ·have hj : (j : Int) < l.length := by
   simp only [hyphP, Bool.and_eq_true, decide_eq_true_eq] at hh
   exact hh.1.2
  rw [if_pos hh] at bN ⊢
  rw [if_pos hh, if_pos hj, w64 (by omega) (by omega)]
 ·rw [if_neg hh] at bN ⊢
  rw [if_neg hh, Int.add_zero]
theorem bad_spec {r : Int} (h0 : 0 ≤ r) (h1 : r ≤ 1024) (h o : Bool) :
  (if h = true then (if o = true then (some (wrap64 ((wrap64 ((wrap64 ((wrap64 (10 + (mn ((wrap64 ((wrap64 ((wrap64 (100 * r)) * r)) * r)) / 2097152) 10000))) * (wrap64 (10 + (mn ((wrap64 ((wrap64 ((wrap64 (100 * r)) * r)) * r)) / 2097152) 10000))))) + 2500)) + 1000000000000))) else (some (wrap64 ((wrap64 ((wrap64 (10 + (mn ((wrap64 ((wrap64 ((wrap64 (100 * r)) * r)) * r)) / 2097152) 10000))) * (wrap64 (10 + (mn ((wrap64 ((wrap64 ((wrap64 (100 * r)) * r)) * r)) / 2097152) 10000))))) + 2500)))) else (if o = true then (some (wrap64 ((wrap64 ((wrap64 (10 + (mn ((wrap64 ((wrap64 ((wrap64 (100 * r)) * r)) * r)) / 2097152) 10000))) * (wrap64 (10 + (mn ((wrap64 ((wrap64 ((wrap64 (100 * r)) * r)) * r)) / 2097152) 10000))))) + 1000000000000))) else (some (wrap64 ((wrap64 (10 + (mn ((wrap64 ((wrap64 ((wrap64 (100 * r)) * r)) * r)) / 2097152) 10000))) * (wrap64 (10 + (mn ((wrap64 ((wrap64 ((wrap64 (100 * r)) * r)) * r)) / 2097152) 10000)))))))) = some (costOf r h o) := by
 obtain ⟨a1, a2, a3⟩ := cube_bd h0 h1
 obtain ⟨b0, b1⟩ := bad_bd h0 h1
 have hs := sq_bd b0 b1
 rw [w64 (n := 100 * r) (by omega) (by omega), w64 (n := 100 * r * r) (by omega) (by omega), w64 (n := 100 * r * r * r) (by omega) (by omega)]
 unfold costOf
 generalize mn (100 * r * r * r / 2097152) 10000 = b at *
 rw [w64 (n := 10 + b) (by omega) (by omega)]
 generalize (10 + b) * (10 + b) = q at *
 rw [w64 (n := q) (by omega) (by omega), w64 (n := q + 2500) (by omega) (by omega), w64 (n := q + 2500 + 1000000000000) (by omega) (by omega), w64 (n := q + 1000000000000) (by omega) (by omega)]
 cases h <;> cases o <;> simp
theorem demerits_spec {l : List S43} {w : Int} (ok : OkL l w) {f t : Int} (h0 : -1 ≤ f) (h1 : f < t) (h2 : t ≤ l.length) (k : Nat) :
  best_flow_demerits.f (k + 2) l w (sumsTo l l.length) f t = some (costP l w f t) := by
 have hr := rateP_bd ok h0 h1 h2
 unfold best_flow_demerits.f
 rw [line_spec ok h0 h1 h2 k, hyphen_f]
 simp only [Option.bind_some]
 exact bad_spec hr.1 hr.2 _ _
def Br (l : List S43) : Int → List Int → Prop := Go.DP.Fw (placeP l) (legalP l)
def TotP (l : List S43) (w : Int) : Int → List Int → Int := Go.DP.totF (costP l w)
def legalB (l : List S43) : Int → List Int → Bool
 | f, [] => f == (l.length : Int)
 | f, b :: bs => decide (f < b) && placeP l b && legalP l f b && legalB l b bs
theorem tot_bd {l : List S43} {w : Int} (ok : OkL l w) : ∀ (bs : List Int) (f : Int), -1 ≤ f → Br l f bs → 100 * bs.length ≤ TotP l w f bs ∧ TotP l w f bs ≤ 1000100202600 * bs.length
 | [], f, _, _ => by simp [TotP, Go.DP.totF]
 | b :: bs, f, h0, h => by
  obtain ⟨h1, h2, h3, h4⟩ := h
  have hp := place_le h2
  have ih := tot_bd ok bs b (by omega) h4
  have hc := costP_bd ok h0 h1 hp.2
  unfold TotP at *
  simp only [Go.DP.totF, List.length_cons]
  omega
theorem rd_drop {bs : List Int} {i : Nat} (h : i < bs.length) : bs.drop i = rd bs i :: bs.drop (i + 1) := by
 rw [List.drop_eq_getElem_cons h]
 congr 1
 unfold rd
 rw [Int.toNat_natCast, List.getD_eq_getElem?_getD, List.getElem?_eq_getElem h]
 rfl
def legalL (l : List S43) (bs : List Int) : Bool := decide (0 < bs.length) && legalB l (-1) bs
theorem legalB_iff (l : List S43) : ∀ (bs : List Int) (f : Int), legalB l f bs = true ↔ Br l f bs ∧ bs.getLast?.getD f = l.length
 | [], f => by simp [legalB, Br, Go.DP.Fw]
 | b :: bs, f => by
  have e : ((b :: bs).getLast?).getD f = (bs.getLast?).getD b := by
   cases bs with
   | nil => rfl
   | cons c cs => simp [List.getLast?_cons]
  rw [e]
  simp only [legalB, Bool.and_eq_true, decide_eq_true_eq, legalB_iff l bs b]
  simp only [Br, Go.DP.Fw]
  constructor
  ·rintro ⟨⟨⟨h1, h2⟩, h3⟩, h4, h5⟩; exact ⟨⟨h1, h2, h3, h4⟩, h5⟩
  ·rintro ⟨⟨h1, h2, h3, h4⟩, h5⟩; exact ⟨⟨⟨h1, h2⟩, h3⟩, h4, h5⟩
def ratioP (l : List S43) (w f t : Int) : Int × Int × Int :=
 if checkP l w = 0 ∧ (f = -1 ∨ (f ≠ l.length ∧ placeP l f = true)) ∧ placeP l t = true ∧ f < t then (lineN l f t, rateP l w f t, 0) else (0, 0, 1)
def demeritsP (l : List S43) (w : Int) (bs : List Int) : Int × Int := if checkP l w = 0 ∧ legalL l bs = true then (TotP l w (-1) bs, 0) else (0, 1)
end Go.Proofs.Ytbddfnmhhmkfkaa.Pr
namespace Go.Proofs.Ytbddfnmhhmkfkaa.Pr
set_option linter.unusedVariables false
set_option linter.unusedSimpArgs false
open Go.RowKit Go.Proofs.YtbddfnmhhmkfkaaW.PrintWords
attribute [local go_sem] Oper.semAt_some
theorem flat85_at (xs : List S85) : ∀ (j : Nat) (p : S85), xs[j]? = some p → ((flat85 xs).drop (j * 3)).take 3 = [.int .i64 p.f0, .int .i64 p.f1, .int .i64 p.f2] := by
 induction xs with
 | nil => intro j p h; simp at h
 | cons x xs ih =>
  intro j p h
  cases j with
  | zero => simp at h; subst h; simp [flat85]
  | succ j =>
   have := ih j p (by simpa using h)
   rw [Nat.succ_mul]
   simp only [flat85, List.flatMap_cons] at this ⊢
   rw [show ∀ l : List Value, (([.int .i64 x.f0, .int .i64 x.f1, .int .i64 x.f2] : List Value) ++ l).drop (j * 3 + 3) = l.drop (j * 3) from fun l => rfl]
   exact this
theorem own_R85 {w : World} {base : Nat} {v : Value} {xs : List S85} (h : w.ownsRow base 85 3 v xs.length (flat85 xs)) (b' : Nat) (hb : b' ≤ base) : Kd.R k85 85 w b' (fun _ => True) v xs := by
 refine Kd.R_lower (base := base) ⟨fun _ _ => trivial, flat85 xs, h, flat85_length xs, fun j p hp => ?_⟩ hb
 have := flat85_at xs j p hp
 show k85.M _ _ _ _ (((flat85 xs).drop (j * 3)).take 3)
 rw [this]
 exact k85_mkM _ _ _ _
theorem begin_flow (A : Option Addr) (c : Nat) (l : List S43) (wd : Int) (w : World) (hl : l.length ≤ 1000000) (hA : Kd.C k43 w A l.length l) :
  Calls Try.prog 43 #[.slice A l.length c, .int .i64 wd] w fun e w' => ∃ A2 c2, e = .returned (.agg #[.slice A l.length c, .int .i64 wd, .slice A2 (sumsTo l l.length).length c2]) ∧
   Kd.C k85 w' A2 (sumsTo l l.length).length (sumsTo l l.length) ∧ (sumsTo l l.length).length ≤ c2 ∧ Below w.heap.size w w' := by
 refine (begin_calls A c l wd w hl hA).mono ?_
 rintro e w' ⟨v, rfl, ho, hb⟩
 have e1 := sums_len l l.length
 rw [← e1] at ho
 obtain ⟨A2, c2, rfl⟩ := own_slice ho
 have hr := Kd.R_reads' (own_R85 ho _ (Nat.le_refl _))
 exact ⟨A2, c2, rfl, hr.2.2, hr.2.1, hb⟩
theorem flow_cells {w : World} {g : Nat} {A : Option Addr} {n c : Nat} {wd : Int} {v : Value} (h : w.heap[g]? = some (.cells #[.slice A n c, .int .i64 wd, v] 67 (0, 0))) :
  w.cell? ⟨g, 0, none⟩ = some (.slice A n c) ∧ w.cell? ⟨g, 1, none⟩ = some (.int .i64 wd) ∧ w.cell? ⟨g, 2, none⟩ = some v :=
 ⟨by rw [blk_cell h 0]; rfl, by rw [blk_cell h 1]; rfl, by rw [blk_cell h 2]; rfl⟩
def best_Ratio.f (l0 : List S43) (a1 a2 a3 : Int) : Option (Int × Int × Int) := if l0.length ≤ 1000000 then some (ratioP l0 a1 a2 a3) else none
set_option maxRecDepth 100000 in
set_option maxHeartbeats 4000000 in
theorem best_Ratio.calls (A0 : Option Addr) (c0 : Nat) (l0 : List S43) (a1 a2 a3 r1 r2 r3 : Int) (w : World) (hr0 : Kd.C k43 w A0 l0.length l0) (hc0 : l0.length ≤ c0) (h : best_Ratio.f l0 a1 a2 a3 = some (r1, r2, r3)) :
  Calls Try.prog 19 #[.slice A0 l0.length c0, .int .i64 a1, .int .i64 a2, .int .i64 a3] w fun e w' => e = .returned (.tuple #[.int .i64 r1, .int .i64 r2, .int .i64 r3]) ∧ Below w.heap.size w w' := by
 unfold best_Ratio.f at h
 have hl : l0.length ≤ 1000000 := by
  by_cases hl : l0.length ≤ 1000000
  ·exact hl
  ·rw [if_neg hl] at h; cases h
 rw [if_pos hl] at h
 replace h := Option.some.inj h
 have hb := begin_flow A0 c0 l0 a1 w hl hr0
 have HB := Lib.hid hb
 have hck := fun W (hW : Below w.heap.size w W) => best_Check.calls A0 c0 l0 a1 _ W (Kd.C_below hr0 hW) hc0 rfl
 have HCK := Lib.hid hck
 obtain ⟨S, hS⟩ : ∃ S, sumsTo l0 l0.length = S := ⟨_, rfl⟩
 have hpl := fun a A2 c2 W (hc2 : S.length ≤ c2) (hW : Below w.heap.size w W) (hs : Kd.C k85 W A2 S.length S) => best_flow_place.calls A0 c0 l0 a1 A2 c2 S a _ W (Kd.C_below hr0 hW) hc0 hs hc2 (place_f l0 a1 S a)
 have hp2 := hpl a2
 have hp3 := hpl a3
 rw [hS] at HB
 obtain ⟨b2, e2⟩ : ∃ b, placeP l0 a2 = b := ⟨_, rfl⟩
 obtain ⟨b3, e3⟩ : ∃ b, placeP l0 a3 = b := ⟨_, rfl⟩
 rw [e2] at hp2
 rw [e3] at hp3
 have HP2 := Lib.hid hp2
 have HP3 := Lib.hid hp3
 have HR := Lib.hid hr0
 have HC0 := Lib.hid hc0
 have H := Lib.hid h
 have HS := Lib.hid hS
 have E2 := Lib.hid e2
 have E3 := Lib.hid e3
 have hnl : (l0.length : Int) ≤ 1000000 := by omega
 clear hb hr0 hc0 h hck hpl hp2 hp3 hS e2 e3
 rcases check_01 l0 a1 with hk | hk
 ·rw [hk] at HCK
  have HK := Lib.hid hk
  clear hk
  by_cases h1 : a2 = -1
  ·subst h1
   cases b3
   ·obtain ⟨rfl, rfl, rfl⟩ : r1 = 0 ∧ r2 = 0 ∧ r3 = 1 := by
     have := H.out
     unfold ratioP at this
     rw [if_neg (by rw [E3.out]; rintro ⟨_, _, h, _⟩; cases h)] at this
     simp only [Prod.mk.injEq] at this
     omega
    clear H
    go_enter Try.func19, Try.ntmps19
    go_wp2_with fail
    refine HB.out.mono ?_
    rintro _ w1 ⟨A2, c2, rfl, hs, hc2, hb1⟩
    have hB2 : Below w.heap.size w (w1.alloc (.cells #[.slice A0 l0.length c0, .int .i64 a1, .slice A2 S.length c2] 67)) := below_alloc hb1 _
    have hX2 := blk_new w1 (.cells #[.slice A0 l0.length c0, .int .i64 a1, .slice A2 S.length c2] 67)
    have hS2 := Kd.C_alloc hs (.cells #[.slice A0 l0.length c0, .int .i64 a1, .slice A2 S.length c2] 67)
    go_wp2_with fail
    refine (HCK.out _ hB2).mono ?_
    rintro _ w2 ⟨rfl, hb⟩
    replace hX2 := blk_below hX2 hb
    replace hS2 := Kd.C_below hS2 hb
    replace hB2 := below_step hB2 hb
    clear hs hb hb1
    obtain ⟨x0, x1, x2⟩ := flow_cells hX2
    have HX2 := Lib.hid hX2
    clear hX2
    go_wp2_with fail
    refine (HP3.out A2 c2 _ hc2 hB2 hS2).mono ?_
    rintro _ w3 ⟨rfl, hb⟩
    clear x0 x1 x2
    have hX2 := blk_below HX2.out hb
    replace hS2 := Kd.C_below hS2 hb
    replace hB2 := below_step hB2 hb
    clear hb HX2
    go_wp2
    go_ret3
    exact ⟨rfl, hB2⟩
   ·by_cases h2 : a3 ≤ -1
    ·obtain ⟨rfl, rfl, rfl⟩ : r1 = 0 ∧ r2 = 0 ∧ r3 = 1 := by
      have := H.out
      unfold ratioP at this
      rw [if_neg (by rintro ⟨_, _, _, h⟩; omega)] at this
      simp only [Prod.mk.injEq] at this
      omega
     clear H
     go_enter Try.func19, Try.ntmps19
     go_wp2_with fail
     refine HB.out.mono ?_
     rintro _ w1 ⟨A2, c2, rfl, hs, hc2, hb1⟩
     have hB2 : Below w.heap.size w (w1.alloc (.cells #[.slice A0 l0.length c0, .int .i64 a1, .slice A2 S.length c2] 67)) := below_alloc hb1 _
     have hX2 := blk_new w1 (.cells #[.slice A0 l0.length c0, .int .i64 a1, .slice A2 S.length c2] 67)
     have hS2 := Kd.C_alloc hs (.cells #[.slice A0 l0.length c0, .int .i64 a1, .slice A2 S.length c2] 67)
     go_wp2_with fail
     refine (HCK.out _ hB2).mono ?_
     rintro _ w2 ⟨rfl, hb⟩
     replace hX2 := blk_below hX2 hb
     replace hS2 := Kd.C_below hS2 hb
     replace hB2 := below_step hB2 hb
     clear hs hb hb1
     obtain ⟨x0, x1, x2⟩ := flow_cells hX2
     have HX2 := Lib.hid hX2
     clear hX2
     go_wp2_with fail
     refine (HP3.out A2 c2 _ hc2 hB2 hS2).mono ?_
     rintro _ w3 ⟨rfl, hb⟩
     clear x0 x1 x2
     have hX2 := blk_below HX2.out hb
     replace hS2 := Kd.C_below hS2 hb
     replace hB2 := below_step hB2 hb
     clear hb HX2
     go_wp2
     go_ret3
     exact ⟨rfl, hB2⟩
    ·have hk := HK.out
     have ok := check_ok hk
     have hp3 := place_le E3.out
     have hf1 : -1 ≤ -1 := by omega
     have HL := Lib.hid (line_spec ok hf1 (show -1 < a3 by omega) hp3.2 0)
     have hr := H.out
     unfold ratioP at hr
     rw [if_pos ⟨hk, .inl rfl, E3.out, by omega⟩] at hr
     simp only [Prod.mk.injEq] at hr
     obtain ⟨rfl, rfl, rfl⟩ := hr
     rw [HS.out] at HL
     have hf2 : -1 < a3 := by omega
     clear hk ok hp3 H hf1
     generalize lineN l0 (-1) a3 = n at *
     generalize lineY l0 (-1) a3 = y at *
     generalize lineZ l0 (-1) a3 = z at *
     generalize rateP l0 a1 (-1) a3 = r at *
     generalize overP l0 a1 (-1) a3 = o at *
     go_enter Try.func19, Try.ntmps19
     go_wp2_with fail
     refine HB.out.mono ?_
     rintro _ w1 ⟨A2, c2, rfl, hs, hc2, hb1⟩
     have hB2 : Below w.heap.size w (w1.alloc (.cells #[.slice A0 l0.length c0, .int .i64 a1, .slice A2 S.length c2] 67)) := below_alloc hb1 _
     have hX2 := blk_new w1 (.cells #[.slice A0 l0.length c0, .int .i64 a1, .slice A2 S.length c2] 67)
     have hS2 := Kd.C_alloc hs (.cells #[.slice A0 l0.length c0, .int .i64 a1, .slice A2 S.length c2] 67)
     go_wp2_with fail
     refine (HCK.out _ hB2).mono ?_
     rintro _ w2 ⟨rfl, hb⟩
     replace hX2 := blk_below hX2 hb
     replace hS2 := Kd.C_below hS2 hb
     replace hB2 := below_step hB2 hb
     clear hs hb hb1
     obtain ⟨x0, x1, x2⟩ := flow_cells hX2
     have HX2 := Lib.hid hX2
     clear hX2
     go_wp2_with fail
     refine (HP3.out A2 c2 _ hc2 hB2 hS2).mono ?_
     rintro _ w3 ⟨rfl, hb⟩
     clear x0 x1 x2
     have hX2 := blk_below HX2.out hb
     replace hS2 := Kd.C_below hS2 hb
     replace hB2 := below_step hB2 hb
     clear hb HX2
     obtain ⟨x0, x1, x2⟩ := flow_cells hX2
     have HX2 := Lib.hid hX2
     clear hX2
     go_wp2_with fail
     refine (bfl.calls 2 A0 c0 l0 a1 A2 c2 S (-1) a3 _ _ _ _ _ _ (Kd.C_below HR.out hB2) HC0.out hS2 hc2 HL.out).mono ?_
     rintro _ w3 ⟨rfl, hb⟩
     clear x0 x1 x2
     replace hB2 := below_step hB2 hb
     have hb4 := below_alloc hB2 (.cells #[.int .i64 n, .int .i64 y, .int .i64 z, .int .i64 r, .bool o] 87)
     go_wp2
     go_quiet (fail)
     go_wp2
     go_ret3
     refine ⟨?_, by apply pw_below_drewN; exact hb4⟩
     first | rfl | (simp; done)
  ·have g1 : (a2 == -1) = false := beq_eq_false_iff_ne.2 h1
   have g2 : (a2 != -1) = true := bne_iff_ne.2 h1
   by_cases h3 : a2 = l0.length
   ·obtain ⟨rfl, rfl, rfl⟩ : r1 = 0 ∧ r2 = 0 ∧ r3 = 1 := by
     have := H.out
     unfold ratioP at this
     rw [if_neg (by rintro ⟨_, h | h, _⟩; exact h1 h; exact h.1 h3)] at this
     simp only [Prod.mk.injEq] at this
     omega
    clear H
    have g3 : (a2 == (l0.length : Int)) = true := beq_iff_eq.2 h3
    clear h1 h3
    go_enter Try.func19, Try.ntmps19
    go_wp2_with fail
    refine HB.out.mono ?_
    rintro _ w1 ⟨A2, c2, rfl, hs, hc2, hb1⟩
    have hB2 : Below w.heap.size w (w1.alloc (.cells #[.slice A0 l0.length c0, .int .i64 a1, .slice A2 S.length c2] 67)) := below_alloc hb1 _
    have hX2 := blk_new w1 (.cells #[.slice A0 l0.length c0, .int .i64 a1, .slice A2 S.length c2] 67)
    have hS2 := Kd.C_alloc hs (.cells #[.slice A0 l0.length c0, .int .i64 a1, .slice A2 S.length c2] 67)
    go_wp2_with fail
    refine (HCK.out _ hB2).mono ?_
    rintro _ w2 ⟨rfl, hb⟩
    replace hX2 := blk_below hX2 hb
    replace hS2 := Kd.C_below hS2 hb
    replace hB2 := below_step hB2 hb
    clear hs hb hb1
    go_wp2
    go_ret3
    exact ⟨rfl, hB2⟩
   ·have g3 : (a2 == (l0.length : Int)) = false := beq_eq_false_iff_ne.2 h3
    cases b2
    ·obtain ⟨rfl, rfl, rfl⟩ : r1 = 0 ∧ r2 = 0 ∧ r3 = 1 := by
      have := H.out
      unfold ratioP at this
      rw [if_neg (by rw [E2.out]; rintro ⟨_, h | h, _⟩; exact h1 h; cases h.2)] at this
      simp only [Prod.mk.injEq] at this
      omega
     clear H h1 h3
     go_enter Try.func19, Try.ntmps19
     go_wp2_with fail
     refine HB.out.mono ?_
     rintro _ w1 ⟨A2, c2, rfl, hs, hc2, hb1⟩
     have hB2 : Below w.heap.size w (w1.alloc (.cells #[.slice A0 l0.length c0, .int .i64 a1, .slice A2 S.length c2] 67)) := below_alloc hb1 _
     have hX2 := blk_new w1 (.cells #[.slice A0 l0.length c0, .int .i64 a1, .slice A2 S.length c2] 67)
     have hS2 := Kd.C_alloc hs (.cells #[.slice A0 l0.length c0, .int .i64 a1, .slice A2 S.length c2] 67)
     go_wp2_with fail
     refine (HCK.out _ hB2).mono ?_
     rintro _ w2 ⟨rfl, hb⟩
     replace hX2 := blk_below hX2 hb
     replace hS2 := Kd.C_below hS2 hb
     replace hB2 := below_step hB2 hb
     clear hs hb hb1
     obtain ⟨x0, x1, x2⟩ := flow_cells hX2
     have HX2 := Lib.hid hX2
     clear hX2
     go_wp2_with fail
     refine (HP2.out A2 c2 _ hc2 hB2 hS2).mono ?_
     rintro _ w3 ⟨rfl, hb⟩
     clear x0 x1 x2
     have hX2 := blk_below HX2.out hb
     replace hS2 := Kd.C_below hS2 hb
     replace hB2 := below_step hB2 hb
     clear hb HX2
     go_wp2
     go_ret3
     exact ⟨rfl, hB2⟩
    ·cases b3
     ·obtain ⟨rfl, rfl, rfl⟩ : r1 = 0 ∧ r2 = 0 ∧ r3 = 1 := by
       have := H.out
       unfold ratioP at this
       rw [if_neg (by rw [E3.out]; rintro ⟨_, _, h, _⟩; cases h)] at this
       simp only [Prod.mk.injEq] at this
       omega
      clear H h1 h3
      go_enter Try.func19, Try.ntmps19
      go_wp2_with fail
      refine HB.out.mono ?_
      rintro _ w1 ⟨A2, c2, rfl, hs, hc2, hb1⟩
      have hB2 : Below w.heap.size w (w1.alloc (.cells #[.slice A0 l0.length c0, .int .i64 a1, .slice A2 S.length c2] 67)) := below_alloc hb1 _
      have hX2 := blk_new w1 (.cells #[.slice A0 l0.length c0, .int .i64 a1, .slice A2 S.length c2] 67)
      have hS2 := Kd.C_alloc hs (.cells #[.slice A0 l0.length c0, .int .i64 a1, .slice A2 S.length c2] 67)
      go_wp2_with fail
      refine (HCK.out _ hB2).mono ?_
      rintro _ w2 ⟨rfl, hb⟩
      replace hX2 := blk_below hX2 hb
      replace hS2 := Kd.C_below hS2 hb
      replace hB2 := below_step hB2 hb
      clear hs hb hb1
      obtain ⟨x0, x1, x2⟩ := flow_cells hX2
      have HX2 := Lib.hid hX2
      clear hX2
      go_wp2_with fail
      refine (HP2.out A2 c2 _ hc2 hB2 hS2).mono ?_
      rintro _ w3 ⟨rfl, hb⟩
      clear x0 x1 x2
      have hX2 := blk_below HX2.out hb
      replace hS2 := Kd.C_below hS2 hb
      replace hB2 := below_step hB2 hb
      clear hb HX2
      obtain ⟨x0, x1, x2⟩ := flow_cells hX2
      have HX2 := Lib.hid hX2
      clear hX2
      go_wp2_with fail
      refine (HP3.out A2 c2 _ hc2 hB2 hS2).mono ?_
      rintro _ w3 ⟨rfl, hb⟩
      clear x0 x1 x2
      have hX2 := blk_below HX2.out hb
      replace hS2 := Kd.C_below hS2 hb
      replace hB2 := below_step hB2 hb
      clear hb HX2
      go_wp2
      go_ret3
      exact ⟨rfl, hB2⟩
     ·by_cases h2 : a3 ≤ a2
      ·obtain ⟨rfl, rfl, rfl⟩ : r1 = 0 ∧ r2 = 0 ∧ r3 = 1 := by
        have := H.out
        unfold ratioP at this
        rw [if_neg (by rintro ⟨_, _, _, h⟩; omega)] at this
        simp only [Prod.mk.injEq] at this
        omega
       clear H h1 h3
       go_enter Try.func19, Try.ntmps19
       go_wp2_with fail
       refine HB.out.mono ?_
       rintro _ w1 ⟨A2, c2, rfl, hs, hc2, hb1⟩
       have hB2 : Below w.heap.size w (w1.alloc (.cells #[.slice A0 l0.length c0, .int .i64 a1, .slice A2 S.length c2] 67)) := below_alloc hb1 _
       have hX2 := blk_new w1 (.cells #[.slice A0 l0.length c0, .int .i64 a1, .slice A2 S.length c2] 67)
       have hS2 := Kd.C_alloc hs (.cells #[.slice A0 l0.length c0, .int .i64 a1, .slice A2 S.length c2] 67)
       go_wp2_with fail
       refine (HCK.out _ hB2).mono ?_
       rintro _ w2 ⟨rfl, hb⟩
       replace hX2 := blk_below hX2 hb
       replace hS2 := Kd.C_below hS2 hb
       replace hB2 := below_step hB2 hb
       clear hs hb hb1
       obtain ⟨x0, x1, x2⟩ := flow_cells hX2
       have HX2 := Lib.hid hX2
       clear hX2
       go_wp2_with fail
       refine (HP2.out A2 c2 _ hc2 hB2 hS2).mono ?_
       rintro _ w3 ⟨rfl, hb⟩
       clear x0 x1 x2
       have hX2 := blk_below HX2.out hb
       replace hS2 := Kd.C_below hS2 hb
       replace hB2 := below_step hB2 hb
       clear hb HX2
       obtain ⟨x0, x1, x2⟩ := flow_cells hX2
       have HX2 := Lib.hid hX2
       clear hX2
       go_wp2_with fail
       refine (HP3.out A2 c2 _ hc2 hB2 hS2).mono ?_
       rintro _ w3 ⟨rfl, hb⟩
       clear x0 x1 x2
       have hX2 := blk_below HX2.out hb
       replace hS2 := Kd.C_below hS2 hb
       replace hB2 := below_step hB2 hb
       clear hb HX2
       go_wp2
       go_ret3
       exact ⟨rfl, hB2⟩
      ·have hk := HK.out
       have ok := check_ok hk
       have hp3 := place_le E3.out
       have hf1 : -1 ≤ a2 := (by have := place_le E2.out; omega)
       have HL := Lib.hid (line_spec ok hf1 (show a2 < a3 by omega) hp3.2 0)
       have hr := H.out
       unfold ratioP at hr
       rw [if_pos ⟨hk, .inr ⟨h3, E2.out⟩, E3.out, by omega⟩] at hr
       simp only [Prod.mk.injEq] at hr
       obtain ⟨rfl, rfl, rfl⟩ := hr
       rw [HS.out] at HL
       have hf2 : a2 < a3 := by omega
       clear hk ok hp3 H hf1
       generalize lineN l0 a2 a3 = n at *
       generalize lineY l0 a2 a3 = y at *
       generalize lineZ l0 a2 a3 = z at *
       generalize rateP l0 a1 a2 a3 = r at *
       generalize overP l0 a1 a2 a3 = o at *
       clear h1 h3
       go_enter Try.func19, Try.ntmps19
       go_wp2_with fail
       refine HB.out.mono ?_
       rintro _ w1 ⟨A2, c2, rfl, hs, hc2, hb1⟩
       have hB2 : Below w.heap.size w (w1.alloc (.cells #[.slice A0 l0.length c0, .int .i64 a1, .slice A2 S.length c2] 67)) := below_alloc hb1 _
       have hX2 := blk_new w1 (.cells #[.slice A0 l0.length c0, .int .i64 a1, .slice A2 S.length c2] 67)
       have hS2 := Kd.C_alloc hs (.cells #[.slice A0 l0.length c0, .int .i64 a1, .slice A2 S.length c2] 67)
       go_wp2_with fail
       refine (HCK.out _ hB2).mono ?_
       rintro _ w2 ⟨rfl, hb⟩
       replace hX2 := blk_below hX2 hb
       replace hS2 := Kd.C_below hS2 hb
       replace hB2 := below_step hB2 hb
       clear hs hb hb1
       obtain ⟨x0, x1, x2⟩ := flow_cells hX2
       have HX2 := Lib.hid hX2
       clear hX2
       go_wp2_with fail
       refine (HP2.out A2 c2 _ hc2 hB2 hS2).mono ?_
       rintro _ w3 ⟨rfl, hb⟩
       clear x0 x1 x2
       have hX2 := blk_below HX2.out hb
       replace hS2 := Kd.C_below hS2 hb
       replace hB2 := below_step hB2 hb
       clear hb HX2
       obtain ⟨x0, x1, x2⟩ := flow_cells hX2
       have HX2 := Lib.hid hX2
       clear hX2
       go_wp2_with fail
       refine (HP3.out A2 c2 _ hc2 hB2 hS2).mono ?_
       rintro _ w3 ⟨rfl, hb⟩
       clear x0 x1 x2
       have hX2 := blk_below HX2.out hb
       replace hS2 := Kd.C_below hS2 hb
       replace hB2 := below_step hB2 hb
       clear hb HX2
       obtain ⟨x0, x1, x2⟩ := flow_cells hX2
       have HX2 := Lib.hid hX2
       clear hX2
       go_wp2_with fail
       refine (bfl.calls 2 A0 c0 l0 a1 A2 c2 S a2 a3 _ _ _ _ _ _ (Kd.C_below HR.out hB2) HC0.out hS2 hc2 HL.out).mono ?_
       rintro _ w3 ⟨rfl, hb⟩
       clear x0 x1 x2
       replace hB2 := below_step hB2 hb
       have hb4 := below_alloc hB2 (.cells #[.int .i64 n, .int .i64 y, .int .i64 z, .int .i64 r, .bool o] 87)
       go_wp2
       go_quiet (fail)
       go_wp2
       go_ret3
       refine ⟨?_, by apply pw_below_drewN; exact hb4⟩
       first | rfl | (simp; done)
 ·rw [hk] at HCK
  obtain ⟨rfl, rfl, rfl⟩ : r1 = 0 ∧ r2 = 0 ∧ r3 = 1 := by
   have := H.out
   unfold ratioP at this
   rw [if_neg (by rw [hk]; rintro ⟨h, _⟩; cases h)] at this
   simp only [Prod.mk.injEq] at this
   omega
  clear H hk
  go_enter Try.func19, Try.ntmps19
  go_wp2_with fail
  refine HB.out.mono ?_
  rintro _ w1 ⟨A2, c2, rfl, hs, hc2, hb1⟩
  have hB2 : Below w.heap.size w (w1.alloc (.cells #[.slice A0 l0.length c0, .int .i64 a1, .slice A2 S.length c2] 67)) := below_alloc hb1 _
  have hX2 := blk_new w1 (.cells #[.slice A0 l0.length c0, .int .i64 a1, .slice A2 S.length c2] 67)
  have hS2 := Kd.C_alloc hs (.cells #[.slice A0 l0.length c0, .int .i64 a1, .slice A2 S.length c2] 67)
  go_wp2_with fail
  refine (HCK.out _ hB2).mono ?_
  rintro _ w2 ⟨rfl, hb⟩
  replace hX2 := blk_below hX2 hb
  replace hS2 := Kd.C_below hS2 hb
  replace hB2 := below_step hB2 hb
  clear hs hb hb1
  go_wp2
  go_ret3
  exact ⟨rfl, hB2⟩
def best_Demerits.f (l0 : List S43) (a1 : Int) (l2 : List Int) : Option (Int × Int) := if l0.length ≤ 1000000 ∧ l2.length ≤ 100000 then some (demeritsP l0 a1 l2) else none
structure DemInv (l : List S43) (a1 : Int) (bs : List Int) (k : Nat) (f s : Int) : Prop where
 leg : legalB l (-1) bs = legalB l f (bs.drop k)
 tot : TotP l a1 (-1) bs = s + TotP l a1 f (bs.drop k)
 f0 : -1 ≤ f
 f1 : f ≤ l.length
 s0 : 0 ≤ s
 s1 : s ≤ 1000100202600 * k
 last : (k = 0 ∧ f = -1) ∨ (0 < k ∧ f = rd bs ((k : Int) - 1))
theorem dem_start (l : List S43) (a1 : Int) (bs : List Int) : DemInv l a1 bs 0 (-1) 0 := by
 refine ⟨rfl, ?_, ?_, ?_, ?_, ?_, ?_⟩
 ·rw [List.drop_zero]; exact (Int.zero_add _).symm
 ·omega
 ·omega
 ·omega
 ·omega
 ·exact .inl ⟨rfl, rfl⟩
theorem dem_next {l : List S43} {a1 : Int} (ok : OkL l a1) {bs : List Int} {k : Nat} {f s : Int} (h : DemInv l a1 bs k f s) (hk : k < bs.length) (h1 : f < rd bs k) (h2 : placeP l (rd bs k) = true) (h3 : legalP l f (rd bs k) = true) :
  DemInv l a1 bs (k + 1) (rd bs k) (s + costP l a1 f (rd bs k)) := by
 have hp := place_le h2
 have hc := costP_bd ok h.f0 h1 hp.2
 have d := rd_drop hk
 have a := h.s0
 have b := h.s1
 refine ⟨?_, ?_, ?_, ?_, ?_, ?_, ?_⟩
 ·rw [h.leg, d]
  simp only [legalB]
  rw [decide_eq_true h1, h2, h3]
  rfl
 ·rw [h.tot, d]
  simp only [TotP, Go.DP.totF]
  omega
 ·omega
 ·omega
 ·omega
 ·omega
 ·refine .inr ⟨by omega, ?_⟩
  congr 1
  omega
theorem dem_end {l : List S43} {a1 : Int} {bs : List Int} {f s : Int} (h : DemInv l a1 bs bs.length f s) (hp : 0 < bs.length) (hl : rd bs ((bs.length : Int) - 1) = l.length) (hc : checkP l a1 = 0) : demeritsP l a1 bs = (s, 0) := by
 have h1 := h.leg
 have h2 := h.tot
 have h3 : f = l.length := by
  rcases h.last with h | h
  ·omega
  ·rw [h.2, hl]
 rw [List.drop_length] at h1 h2
 have h4 : legalB l (-1) bs = true := by rw [h1, h3]; simp [legalB]
 unfold demeritsP legalL
 rw [h4, decide_eq_true hp, if_pos ⟨hc, rfl⟩, h2]
 simp [TotP, Go.DP.totF]
theorem dem_bad {l : List S43} {a1 : Int} {bs : List Int} {k : Nat} {f s : Int} (h : DemInv l a1 bs k f s) (hk : k < bs.length) (hbad : rd bs k ≤ f ∨ placeP l (rd bs k) = false ∨ legalP l f (rd bs k) = false) : demeritsP l a1 bs = (0, 1) := by
 have h1 := h.leg
 rw [rd_drop hk] at h1
 have h2 : legalB l (-1) bs = false := by
  rw [h1]
  simp only [legalB]
  rcases hbad with h | h | h
  ·rw [decide_eq_false (by omega)]; rfl
  ·rw [h]; simp
  ·rw [h]; simp
 unfold demeritsP legalL
 rw [h2, if_neg (by simp)]
theorem legalB_last (l : List S43) : ∀ (bs : List Int) (f : Int), 0 < bs.length → legalB l f bs = true → rd bs ((bs.length : Int) - 1) = l.length := by
 intro bs f hp h
 have := ((legalB_iff l bs f).1 h).2
 rw [List.getLast?_eq_getElem?] at this
 unfold rd
 rw [List.getD_eq_getElem?_getD, show ((bs.length : Int) - 1).toNat = bs.length - 1 by omega]
 rw [List.getElem?_eq_getElem (by omega)] at this ⊢
 simpa using this
set_option maxRecDepth 100000 in
set_option maxHeartbeats 8000000 in
theorem best_Demerits.calls (A0 : Option Addr) (c0 : Nat) (l0 : List S43) (a1 : Int) (A2 : Option Addr) (c2 : Nat) (l2 : List Int) (r1 r2 : Int) (w : World) (hr0 : Kd.C k43 w A0 l0.length l0) (hc0 : l0.length ≤ c0) (hr2 : Kd.C (Kd.int .i64) w A2 l2.length l2) (hc2 : l2.length ≤ c2) (h : best_Demerits.f l0 a1 l2 = some (r1, r2)) :
  Calls Try.prog 21 #[.slice A0 l0.length c0, .int .i64 a1, .slice A2 l2.length c2] w fun e w' => e = .returned (.tuple #[.int .i64 r1, .int .i64 r2]) ∧ Below w.heap.size w w' := by
 unfold best_Demerits.f at h
 have hl : l0.length ≤ 1000000 ∧ l2.length ≤ 100000 := by
  by_cases hl : l0.length ≤ 1000000 ∧ l2.length ≤ 100000
  ·exact hl
  ·rw [if_neg hl] at h; cases h
 rw [if_pos hl] at h
 obtain ⟨hl, hl2⟩ := hl
 replace h := Option.some.inj h
 have hb := begin_flow A0 c0 l0 a1 w hl hr0
 have HB := Lib.hid hb
 have hck := fun W (hW : Below w.heap.size w W) => best_Check.calls A0 c0 l0 a1 _ W (Kd.C_below hr0 hW) hc0 rfl
 have HCK := Lib.hid hck
 obtain ⟨S, hS⟩ : ∃ S, sumsTo l0 l0.length = S := ⟨_, rfl⟩
 have hpl := fun a A2 c2 W (hc2 : S.length ≤ c2) (hW : Below w.heap.size w W) (hs : Kd.C k85 W A2 S.length S) => best_flow_place.calls A0 c0 l0 a1 A2 c2 S a _ W (Kd.C_below hr0 hW) hc0 hs hc2 (place_f l0 a1 S a)
 have hlg := fun a b A2 c2 W (hc2 : S.length ≤ c2) (hW : Below w.heap.size w W) (hs : Kd.C k85 W A2 S.length S) => best_flow_legal.calls A0 c0 l0 a1 A2 c2 S a b _ W (Kd.C_below hr0 hW) hc0 hs hc2 (legal_f l0 a1 S a b)
 have hdm := fun a b r A2 c2 W (hc2 : S.length ≤ c2) (hW : Below w.heap.size w W) (hs : Kd.C k85 W A2 S.length S) (hf : best_flow_demerits.f 2 l0 a1 S a b = some r) => best_flow_demerits.calls 2 A0 c0 l0 a1 A2 c2 S a b r W (Kd.C_below hr0 hW) hc0 hs hc2 hf
 rw [hS] at HB
 have HP := Lib.hid hpl
 have HL := Lib.hid hlg
 have HD := Lib.hid hdm
 have HR := Lib.hid hr0
 have HR2 := Lib.hid hr2
 have HC0 := Lib.hid hc0
 have H := Lib.hid h
 have HS := Lib.hid hS
 have hnl : (l0.length : Int) ≤ 1000000 := by omega
 obtain ⟨n, hn⟩ : ∃ n, l2.length = n := ⟨_, rfl⟩
 have hnl2 : (n : Int) ≤ 100000 := by omega
 rw [hn] at hl2 ⊢
 have HN := Lib.hid hn
 clear hb hr0 hc0 h hck hpl hlg hdm hS hr2 hc2 hn
 rcases check_01 l0 a1 with hk | hk
 ·rw [hk] at HCK
  have HK := Lib.hid hk
  clear hk
  by_cases h0 : n = 0
  ·subst h0
   obtain ⟨rfl, rfl⟩ : r1 = 0 ∧ r2 = 1 := by
    have := H.out
    rw [show demeritsP l0 a1 l2 = (0, 1) by unfold demeritsP legalL; rw [if_neg (by rw [HN.out]; simp)]] at this
    simp only [Prod.mk.injEq] at this
    omega
   clear H
   go_enter Try.func21, Try.ntmps21
   go_wp2_with fail
   refine HB.out.mono ?_
   rintro _ w1 ⟨A3, c3, rfl, hs, hc3, hb1⟩
   have hB2 : Below w.heap.size w (w1.alloc (.cells #[.slice A0 l0.length c0, .int .i64 a1, .slice A3 S.length c3] 67)) := below_alloc hb1 _
   have hX2 := blk_new w1 (.cells #[.slice A0 l0.length c0, .int .i64 a1, .slice A3 S.length c3] 67)
   have hS2 := Kd.C_alloc hs (.cells #[.slice A0 l0.length c0, .int .i64 a1, .slice A3 S.length c3] 67)
   go_wp2_with fail
   refine (HCK.out _ hB2).mono ?_
   rintro _ w2 ⟨rfl, hb⟩
   replace hX2 := blk_below hX2 hb
   replace hS2 := Kd.C_below hS2 hb
   replace hB2 := below_step hB2 hb
   have hgB : w.heap.size ≤ w1.heap.size := hb1.size
   clear hs hb hb1
   go_wp2
   go_ret2
   exact ⟨rfl, hB2⟩
  ·have hpos : 0 < (n : Int) := by omega
   have hp1 : 1 ≤ (n : Int) := by omega
   have hn0 : ((n : Int) == 0) = false := beq_eq_false_iff_ne.2 (by omega)
   have hlast : ∀ W, Below w.heap.size w W → ∃ ad, A2 = some ad ∧ W.cell? (ad.add ((n : Int) - 1).toNat) = some (.int .i64 (rd l2 ((n : Int) - 1))) := fun W hW => Kd.at_int (Kd.C_below HR2.out hW) ((n : Int) - 1) (by omega) (by have := HN.out; omega)
   obtain ⟨x, hx⟩ : ∃ x, rd l2 ((n : Int) - 1) = x := ⟨_, rfl⟩
   rw [hx] at hlast
   obtain ⟨ad, rfl, _⟩ := hlast w (Below.refl _ _)
   have HLA : Hid (∀ W, Below w.heap.size w W → W.cell? (ad.add (n - 1)) = some (.int .i64 x)) := Lib.hid fun W hW => by
    obtain ⟨ad', e, hc⟩ := hlast W hW
    cases e
    rw [show ((n : Int) - 1).toNat = n - 1 by omega] at hc
    exact hc
   have HX := Lib.hid hx
   clear hx hlast
   by_cases hxl : x = l0.length
   ·have g1 : (x == (l0.length : Int)) = true := beq_iff_eq.2 hxl
    have g2 : (x != (l0.length : Int)) = false := bne_eq_false_iff_eq.2 hxl
    have HXL := Lib.hid hxl
    clear hxl
    go_enter Try.func21, Try.ntmps21
    go_wp2_with fail
    refine HB.out.mono ?_
    rintro _ w1 ⟨A3, c3, rfl, hs, hc3, hb1⟩
    have hB2 : Below w.heap.size w (w1.alloc (.cells #[.slice A0 l0.length c0, .int .i64 a1, .slice A3 S.length c3] 67)) := below_alloc hb1 _
    have hX2 := blk_new w1 (.cells #[.slice A0 l0.length c0, .int .i64 a1, .slice A3 S.length c3] 67)
    have hS2 := Kd.C_alloc hs (.cells #[.slice A0 l0.length c0, .int .i64 a1, .slice A3 S.length c3] 67)
    go_wp2_with fail
    refine (HCK.out _ hB2).mono ?_
    rintro _ w2 ⟨rfl, hb⟩
    replace hX2 := blk_below hX2 hb
    replace hS2 := Kd.C_below hS2 hb
    replace hB2 := below_step hB2 hb
    have hgB : w.heap.size ≤ w1.heap.size := hb1.size
    clear hs hb hb1
    have hlc := HLA.out _ hB2
    go_wp2_with fail
    clear hlc
    go_loopw [38, 9, 10] (fun v s f wr => ∃ (k : Nat) (sum from_ : Int), DemInv l0 a1 l2 k from_ sum ∧ v = .int .i64 k ∧ s = .int .i64 sum ∧ f = .int .i64 from_ ∧ k ≤ n ∧ wr.heap[w1.heap.size]? = some (.cells #[.slice A0 l0.length c0, .int .i64 a1, .slice A3 S.length c3] 67 (0, 0)) ∧ Kd.C k85 wr A3 S.length S ∧ Below w.heap.size w wr) (fun v _ _ _ => n - (intOf v).toNat)
    case atStart => exact ⟨0, 0, -1, dem_start _ _ _, rfl, rfl, rfl, Nat.zero_le _, hX2, hS2, hB2⟩
    case round =>
     clear hX2 hS2 hB2
     obtain ⟨k, sum, from_, hJ, rfl, rfl, rfl, hk, hX2, hS2, hB2⟩ := hrel
     have j1 := hJ.f0
     have j2 := hJ.f1
     have j3 := hJ.s0
     have j4 := hJ.s1
     have HJ := Lib.hid hJ
     clear hJ
     by_cases hlt : k < n
     ·have hlt1 : (k : Int) < (n : Int) := by omega
      have hkl : k < l2.length := by have := HN.out; omega
      obtain ⟨ad', e1, q0⟩ := Kd.at_int (Kd.C_below HR2.out hB2) k (by omega) (by omega)
      cases e1
      simp only [Int.toNat_natCast] at q0
      obtain ⟨b, hb0⟩ : ∃ b, rd l2 (k : Int) = b := ⟨_, rfl⟩
      rw [hb0] at q0
      have HBB := Lib.hid hb0
      clear hb0
      by_cases h1 : b ≤ from_
      ·obtain ⟨rfl, rfl⟩ : r1 = 0 ∧ r2 = 1 := by
        have := H.out
        rw [dem_bad HJ.out hkl (.inl (by rw [HBB.out]; exact h1))] at this
        simp only [Prod.mk.injEq] at this
        omega
       clear H
       go_wp2
       go_ret2
       exact ⟨rfl, hB2⟩
      ·have h1' : from_ < b := by omega
       obtain ⟨b2, e2⟩ : ∃ x, placeP l0 b = x := ⟨_, rfl⟩
       obtain ⟨b3, e3⟩ : ∃ x, legalP l0 from_ b = x := ⟨_, rfl⟩
       have hp2 := HP.out b
       have hp3 := HL.out from_ b
       rw [e2] at hp2
       rw [e3] at hp3
       have HP2 := Lib.hid hp2
       have HP3 := Lib.hid hp3
       have E2 := Lib.hid e2
       have E3 := Lib.hid e3
       clear hp2 hp3 e2 e3 hkl
       cases b2
       ·obtain ⟨rfl, rfl⟩ : r1 = 0 ∧ r2 = 1 := by
         have := H.out
         rw [dem_bad HJ.out (by have := HN.out; omega) (.inr (.inl (by rw [HBB.out]; exact E2.out)))] at this
         simp only [Prod.mk.injEq] at this
         omega
        clear H
        obtain ⟨x0, x1, x2⟩ := flow_cells hX2
        have HX2 := Lib.hid hX2
        clear hX2
        go_wp2_with fail
        refine (HP2.out A3 c3 _ hc3 hB2 hS2).mono ?_
        rintro _ w3 ⟨rfl, hb⟩
        clear x0 x1 x2
        have hX2 := blk_below HX2.out hb
        replace hS2 := Kd.C_below hS2 hb
        replace hB2 := below_step hB2 hb
        clear hb HX2
        go_wp2
        go_ret2
        exact ⟨rfl, hB2⟩
       ·cases b3
        ·obtain ⟨rfl, rfl⟩ : r1 = 0 ∧ r2 = 1 := by
          have := H.out
          rw [dem_bad HJ.out (by have := HN.out; omega) (.inr (.inr (by rw [HBB.out]; exact E3.out)))] at this
          simp only [Prod.mk.injEq] at this
          omega
         clear H
         obtain ⟨x0, x1, x2⟩ := flow_cells hX2
         have HX2 := Lib.hid hX2
         clear hX2
         go_wp2_with fail
         refine (HP2.out A3 c3 _ hc3 hB2 hS2).mono ?_
         rintro _ w3 ⟨rfl, hb⟩
         clear x0 x1 x2
         have hX2 := blk_below HX2.out hb
         replace hS2 := Kd.C_below hS2 hb
         replace hB2 := below_step hB2 hb
         clear hb HX2
         obtain ⟨x0, x1, x2⟩ := flow_cells hX2
         have HX2 := Lib.hid hX2
         clear hX2
         go_wp2_with fail
         refine (HP3.out A3 c3 _ hc3 hB2 hS2).mono ?_
         rintro _ w4 ⟨rfl, hb⟩
         clear x0 x1 x2
         have hX2 := blk_below HX2.out hb
         replace hS2 := Kd.C_below hS2 hb
         replace hB2 := below_step hB2 hb
         clear hb HX2
         go_wp2
         go_ret2
         exact ⟨rfl, hB2⟩
        ·have hp := place_le E2.out
         have ok := check_ok HK.out
         have hcb := costP_bd ok j1 h1' hp.2
         have hcost := demerits_spec ok j1 h1' hp.2 0
         have hnx := dem_next ok HJ.out (by have := HN.out; omega) (by rw [HBB.out]; exact h1') (by rw [HBB.out]; exact E2.out) (by rw [HBB.out]; exact E3.out)
         rw [HBB.out] at hnx
         rw [HS.out] at hcost
         generalize costP l0 a1 from_ b = cc at *
         have HNX := Lib.hid hnx
         have HCO := Lib.hid hcost
         clear hnx hcost ok
         obtain ⟨x0, x1, x2⟩ := flow_cells hX2
         have HX2 := Lib.hid hX2
         clear hX2
         go_wp2_with fail
         refine (HP2.out A3 c3 _ hc3 hB2 hS2).mono ?_
         rintro _ w3 ⟨rfl, hb⟩
         clear x0 x1 x2
         have hX2 := blk_below HX2.out hb
         replace hS2 := Kd.C_below hS2 hb
         replace hB2 := below_step hB2 hb
         clear hb HX2
         obtain ⟨x0, x1, x2⟩ := flow_cells hX2
         have HX2 := Lib.hid hX2
         clear hX2
         go_wp2_with fail
         refine (HP3.out A3 c3 _ hc3 hB2 hS2).mono ?_
         rintro _ w4 ⟨rfl, hb⟩
         clear x0 x1 x2
         have hX2 := blk_below HX2.out hb
         replace hS2 := Kd.C_below hS2 hb
         replace hB2 := below_step hB2 hb
         clear hb HX2
         obtain ⟨x0, x1, x2⟩ := flow_cells hX2
         have HX2 := Lib.hid hX2
         clear hX2
         go_wp2_with fail
         refine (HD.out _ _ _ A3 c3 _ hc3 hB2 hS2 HCO.out).mono ?_
         rintro _ w5 ⟨rfl, hb⟩
         clear x0 x1 x2
         have hX2 := blk_below HX2.out hb
         replace hS2 := Kd.C_below hS2 hb
         replace hB2 := below_step hB2 hb
         clear hb HX2
         go_wp2
         go_roundw
         case rel => exact ⟨k + 1, sum + cc, b, HNX.out, by go_num, rfl, rfl, by omega, hX2, hS2, hB2⟩
         case measure => simp [intOf]; omega
     ·obtain rfl : k = n := by omega
      have hlt1 : ¬ (k : Int) < (k : Int) := by omega
      obtain ⟨rfl, rfl⟩ : r1 = sum ∧ r2 = 0 := by
       have h5 := HJ.out
       have h6 := HX.out
       rw [← HN.out] at h5 h6
       have := dem_end h5 (by have := HN.out; omega) (by rw [h6]; exact HXL.out) HK.out
       rw [H.out] at this
       simpa using this
      go_wp2
      go_ret2
      exact ⟨rfl, hB2⟩
   ·have g1 : (x == (l0.length : Int)) = false := beq_eq_false_iff_ne.2 hxl
    have g2 : (x != (l0.length : Int)) = true := bne_iff_ne.2 hxl
    have HXL := Lib.hid hxl
    clear hxl
    obtain ⟨rfl, rfl⟩ : r1 = 0 ∧ r2 = 1 := by
     have := H.out
     rw [show demeritsP l0 a1 l2 = (0, 1) by
      unfold demeritsP legalL
      rw [if_neg]
      rintro ⟨_, h⟩
      simp only [Bool.and_eq_true, decide_eq_true_eq] at h
      have := legalB_last l0 l2 _ h.1 h.2
      rw [HN.out, HX.out] at this
      exact HXL.out this] at this
     simp only [Prod.mk.injEq] at this
     omega
    clear H
    go_enter Try.func21, Try.ntmps21
    go_wp2_with fail
    refine HB.out.mono ?_
    rintro _ w1 ⟨A3, c3, rfl, hs, hc3, hb1⟩
    have hB2 : Below w.heap.size w (w1.alloc (.cells #[.slice A0 l0.length c0, .int .i64 a1, .slice A3 S.length c3] 67)) := below_alloc hb1 _
    have hX2 := blk_new w1 (.cells #[.slice A0 l0.length c0, .int .i64 a1, .slice A3 S.length c3] 67)
    have hS2 := Kd.C_alloc hs (.cells #[.slice A0 l0.length c0, .int .i64 a1, .slice A3 S.length c3] 67)
    go_wp2_with fail
    refine (HCK.out _ hB2).mono ?_
    rintro _ w2 ⟨rfl, hb⟩
    replace hX2 := blk_below hX2 hb
    replace hS2 := Kd.C_below hS2 hb
    replace hB2 := below_step hB2 hb
    have hgB : w.heap.size ≤ w1.heap.size := hb1.size
    clear hs hb hb1
    have hlc := HLA.out _ hB2
    go_wp2
    go_ret2
    exact ⟨rfl, hB2⟩
 ·rw [hk] at HCK
  obtain ⟨rfl, rfl⟩ : r1 = 0 ∧ r2 = 1 := by
   have := H.out
   rw [show demeritsP l0 a1 l2 = (0, 1) by unfold demeritsP; rw [if_neg (by rw [hk]; rintro ⟨h, _⟩; cases h)]] at this
   simp only [Prod.mk.injEq] at this
   omega
  clear H hk
  go_enter Try.func21, Try.ntmps21
  go_wp2_with fail
  refine HB.out.mono ?_
  rintro _ w1 ⟨A3, c3, rfl, hs, hc3, hb1⟩
  have hB2 : Below w.heap.size w (w1.alloc (.cells #[.slice A0 l0.length c0, .int .i64 a1, .slice A3 S.length c3] 67)) := below_alloc hb1 _
  have hX2 := blk_new w1 (.cells #[.slice A0 l0.length c0, .int .i64 a1, .slice A3 S.length c3] 67)
  have hS2 := Kd.C_alloc hs (.cells #[.slice A0 l0.length c0, .int .i64 a1, .slice A3 S.length c3] 67)
  go_wp2_with fail
  refine (HCK.out _ hB2).mono ?_
  rintro _ w2 ⟨rfl, hb⟩
  replace hX2 := blk_below hX2 hb
  replace hS2 := Kd.C_below hS2 hb
  replace hB2 := below_step hB2 hb
  have hgB : w.heap.size ≤ w1.heap.size := hb1.size
  clear hs hb hb1
  go_wp2
  go_ret2
  exact ⟨rfl, hB2⟩
end Go.Proofs.Ytbddfnmhhmkfkaa.Pr
namespace Go.Proofs.Ytbddfnmhhmkfkaa.Pr
set_option linter.unusedVariables false
set_option linter.unusedSimpArgs false
open Go.RowKit Go.Proofs.YtbddfnmhhmkfkaaW.PrintWords Go.Proofs.YtbddfnmhhmkfkaaW.PrintLast Go.Proofs.YtbddfnmhhmkfkaaW.PrintMore
attribute [local go_sem] Oper.semAt_some run_store_func
def dashOf (l : List S43) (b : Int) : List S43 := if b < (l.length : Int) ∧ (rd_T43 l b).f0 = 3 then [rd_T43 l b] else []
def lineOf (toks : List S101) (l : List S43) (wd a b : Int) : S55 := setP toks ((l.take b.toNat).drop a.toNat) wd (b == (l.length : Int)) (dashOf l b)
def linesFrom (toks : List S101) (l : List S43) (wd : Int) : Int → List Int → List S55
 | _, [] => []
 | a, b :: bs => lineOf toks l wd a b :: linesFrom toks l wd (b + 1) bs
def brOk (n : Int) : Int → List Int → Bool
 | _, [] => true
 | a, b :: bs => decide (0 ≤ a ∧ a ≤ b ∧ b ≤ n) && brOk n (b + 1) bs
def kindOk (x : S43) : Bool := x.f0 == 1 || x.f0 == 2 || x.f0 == 3 || x.f0 == 4
def lines_Of.f (l0 : List S101) (l1 : List S43) (a2 : Int) (l3 : List Int) : Option (List S55 × Int) :=
 if l1.length ≤ 1000 ∧ l3.length ≤ 1000 then
  (if (demeritsP l1 a2 l3).2 = 0 then (if l1.any (oddT l0) = true then some ([], 1) else (if brOk l1.length 0 l3 = true ∧ l1.all kindOk = true then some (linesFrom l0 l1 a2 0 l3, 0) else none))
   else some ([], (demeritsP l1 a2 l3).2)) else none
theorem cut_one (l : List S43) (j : Nat) (h : j < l.length) : (l.take (j + 1)).drop j = [rd_T43 l j] := by
 rw [List.take_add_one, rd43_get l j h, List.drop_append_of_le_length (by rw [List.length_take]; omega), List.drop_eq_nil_of_le (by rw [List.length_take]; omega)]
 rfl
theorem own_R57 {w : World} {base : Nat} {v : Value} {xs : List S57} (h : w.ownsRow base 57 4 v xs.length (flat57 xs)) (ok : Nat → Prop) (hok : ∀ k, v.ownBlock = some k → ok k) : Kd.R k57 57 w base ok v xs := by
 refine ⟨hok, flat57 xs, h, by rw [flat57_length]; rfl, fun j p hp => ?_⟩
 have key : ∀ (xs : List S57) (j : Nat) (p : S57), xs[j]? = some p → ((flat57 xs).drop (j * 4)).take 4 = [.int .i64 p.f0, .int .u8 p.f1, .int .i64 p.f2, .int .i64 p.f3] := by
  intro xs
  induction xs with
  | nil => intro j p h; simp at h
  | cons x xs ih =>
   intro j p h
   cases j with
   | zero =>
    simp only [List.getElem?_cons_zero, Option.some.injEq] at h
    subst h
    simp [flat57]
   | succ j =>
    have := ih j p (by simpa using h)
    have e : flat57 (x :: xs) = [.int .i64 x.f0, .int .u8 x.f1, .int .i64 x.f2, .int .i64 x.f3] ++ flat57 xs := rfl
    rw [e, show (j + 1) * 4 = 4 + j * 4 by omega, ← List.drop_drop]
    exact this
 show k57.M w base ok p (((flat57 xs).drop (j * 4)).take 4)
 rw [key xs j p hp]
 exact k57_mkM w base ok p
set_option maxRecDepth 100000 in
set_option maxHeartbeats 4000000 in
theorem lines_Of.calls (A0 : Option Addr) (c0 : Nat) (l0 : List S101) (A1 : Option Addr) (c1 : Nat) (l1 : List S43) (a2 : Int) (A3 : Option Addr) (c3 : Nat) (l3 : List Int) (r1 : List S55) (r2 : Int) (w : World)
  (hr0 : Kd.C k101 w A0 l0.length l0) (hc0 : l0.length ≤ c0) (hr1 : Kd.C k43 w A1 l1.length l1) (hc1 : l1.length ≤ c1) (hr3 : Kd.C (Kd.int .i64) w A3 l3.length l3) (hc3 : l3.length ≤ c3) (h : lines_Of.f l0 l1 a2 l3 = some (r1, r2)) :
  Calls Try.prog 26 #[.slice A0 l0.length c0, .slice A1 l1.length c1, .int .i64 a2, .slice A3 l3.length c3] w fun e w' => ∃ v, e = .returned (.tuple #[v, .int .i64 r2]) ∧ Kd.S k55 55 w' w.heap.size (fun _ => True) v r1 ∧ Below w.heap.size w w' := by
 unfold lines_Of.f at h
 by_cases hsz : l1.length ≤ 1000 ∧ l3.length ≤ 1000
 case neg => rw [if_neg hsz] at h; cases h
 rw [if_pos hsz] at h
 obtain ⟨⟨d1, d2⟩, hd⟩ : ∃ p, demeritsP l1 a2 l3 = p := ⟨_, rfl⟩
 rw [hd] at h
 have hdem := fun W hW => best_Demerits.calls A1 c1 l1 a2 A3 c3 l3 d1 d2 W (Kd.C_below hr1 hW) hc1 (Kd.C_below hr3 hW) hc3 (by unfold best_Demerits.f; rw [if_pos ⟨by omega, by omega⟩, hd])
 have HDM := Lib.hid hdem
 have HT0 := Lib.hid hr0
 have HA1 := Lib.hid hr1
 have HA3 := Lib.hid hr3
 have hbx := blk_new w (.cells #[.slice A0 l0.length c0] 44)
 have hb0 := (Below.refl w.heap.size w).alloc (Nat.le_refl _) (.cells #[.slice A0 l0.length c0] 44)
 obtain ⟨w1, hw1⟩ : ∃ w1, w.alloc (.cells #[.slice A0 l0.length c0] 44) = w1 := ⟨_, rfl⟩
 rw [hw1] at hbx hb0
 have HBX := Lib.hid hbx
 have HB0 := Lib.hid hb0
 clear hbx hb0 hdem hr0 hr1 hr3 hd
 have H := Lib.hid h
 clear h
 go_enter Try.func26, Try.ntmps26
 go_wp2_with fail
 refine (HDM.out _ HB0.out).mono ?_
 rintro _ w2 ⟨rfl, hb2⟩
 have hbx2 := blk_below HBX.out hb2
 replace hb2 := HB0.out.trans (hb2.mono HB0.out.size)
 have HB2 := Lib.hid hb2
 have HX2 := Lib.hid hbx2
 clear hb2 hbx2 hw1
 by_cases hd2 : d2 = 0
 ·subst hd2
  have hH := H.out
  rw [if_pos rfl] at hH
  clear H
  cases hany : l1.any (oddT l0) with
  | true =>
   rw [hany, if_pos rfl] at hH
   cases hH
   have HANY : Hid (l1.any (oddT l0) = true) := hany
   clear hany
   go_wp2_with fail
   refine (hasTok_calls w.heap.size A1 c1 l1 w2 (by omega) (Kd.C_below HA1.out HB2.out) A0 c0 l0 hc0 (Kd.C_below HT0.out HB2.out) HX2.out).mono ?_
   rintro _ w3 ⟨rfl, hb3⟩
   rw [HANY.out]
   have hbx3 := blk_below HX2.out hb3
   replace hb3 := HB2.out.trans (hb3.mono HB2.out.size)
   have HB3 := Lib.hid hb3
   have HX3 := Lib.hid hbx3
   clear hb3 hbx3
   go_wp2
   go_ret2
   exact ⟨_, rfl, Kd.S_nil _ _ _ _ _, HB3.out⟩
  | false =>
   rw [hany, if_neg (by simp)] at hH
   by_cases hbk : brOk l1.length 0 l3 = true ∧ l1.all kindOk = true
   case neg => rw [if_neg hbk] at hH; cases hH
   rw [if_pos hbk] at hH
   cases hH
   obtain ⟨hbr, hko⟩ := hbk
   have HBR := Lib.hid hbr
   have hkinds : ∀ x ∈ l1, x.f0 = 1 ∨ x.f0 = 2 ∨ x.f0 = 3 ∨ x.f0 = 4 := fun x hx => by
    have := List.all_eq_true.1 hko x hx
    simpa [kindOk, or_assoc] using this
   have HKS := Lib.hid hkinds
   have HANY : Hid (l1.any (oddT l0) = false) := hany
   clear hbr hko hkinds hany
   go_wp2_with fail
   refine (hasTok_calls w.heap.size A1 c1 l1 w2 (by omega) (Kd.C_below HA1.out HB2.out) A0 c0 l0 hc0 (Kd.C_below HT0.out HB2.out) HX2.out).mono ?_
   rintro _ w3 ⟨rfl, hb3⟩
   rw [HANY.out]
   have hbx3 := blk_below HX2.out hb3
   replace hb3 := HB2.out.trans (hb3.mono HB2.out.size)
   have HB3 := Lib.hid hb3
   have HX3 := Lib.hid hbx3
   clear hb3 hbx3
   obtain ⟨n, hn⟩ : ∃ n, l1.length = n := ⟨_, rfl⟩
   obtain ⟨m, hm⟩ : ∃ m, l3.length = m := ⟨_, rfl⟩
   have HN := Lib.hid hn
   have HM := Lib.hid hm
   rw [hn, hm] at hsz
   obtain ⟨hn1, hm1⟩ := hsz
   have hbr0 := HBR.out
   rw [hn] at hbr0
   have HBR0 := Lib.hid hbr0
   clear hbr0 HBR HANY HDM
   go_wp2_with fail
   go_loopw [13, 14, 34] (fun v13 v14 v34 wr => ∃ (k : Nat) (fr : Int) (done : List S55), v34 = .int .i64 k ∧ k ≤ m ∧ v14 = .int .i64 fr ∧ 0 ≤ fr ∧ Kd.S k55 55 wr (w.heap.size + 1) (fun _ => True) v13 done ∧ Hid (done.length = k) ∧
    Hid (done ++ linesFrom l0 l1 a2 fr (l3.drop k) = linesFrom l0 l1 a2 0 l3) ∧ Hid (brOk n fr (l3.drop k) = true) ∧ Below w.heap.size w wr ∧ wr.heap[w.heap.size]? = some (.cells #[.slice A0 l0.length c0] 44 (0, 0))) (fun _ _ v _ => m - (intOf v).toNat)
   case atStart => exact ⟨0, 0, [], rfl, Nat.zero_le _, rfl, Int.le_refl _, Kd.S_nil _ _ _ _ _, rfl, rfl, HBR0.out, HB3.out, HX3.out⟩
   case round =>
    obtain ⟨k, fr, done, rfl, hk, rfl, hfr, hS, HL, HE, HB, hB, hX⟩ := hrel
    by_cases hlt : k < m
    ·have hlt1 : (k : Int) < (m : Int) := by omega
     obtain ⟨b, rest, hdr⟩ : ∃ b rest, l3.drop k = b :: rest := by
      have : k < l3.length := by have := HM.out; omega
      exact ⟨_, _, List.drop_eq_getElem_cons this⟩
     have hget : l3[k]? = some b := by
      have := congrArg (fun x => x[0]?) hdr
      simpa using this
     have hdr1 : l3.drop (k + 1) = rest := by
      have := congrArg List.tail hdr
      simpa using this
     obtain ⟨ad, e1, q0⟩ := Kd.at_int (Kd.C_below HA3.out hB) k (by omega) (by have := HM.out; omega)
     cases e1
     have hrd : rd l3 k = b := by
      unfold rd
      rw [Int.toNat_natCast, List.getD_eq_getElem?_getD, hget]
      rfl
     rw [hrd] at q0
     simp only [Int.toNat_natCast] at q0
     have hbr := HB.out
     rw [hdr] at hbr
     simp only [brOk, Bool.and_eq_true, decide_eq_true_eq] at hbr
     obtain ⟨⟨_, hfb, hbn⟩, hbr⟩ := hbr
     have hE := HE.out
     rw [hdr, linesFrom] at hE
     have HE1 : Hid ((done ++ [lineOf l0 l1 a2 fr b]) ++ linesFrom l0 l1 a2 (b + 1) rest = linesFrom l0 l1 a2 0 l3) := by
      rw [List.append_assoc]; exact hE
     have HB1 : Hid (brOk n (b + 1) rest = true) := hbr
     have HD1 : Hid (l3.drop (k + 1) = rest) := hdr1
     have HS9 := Lib.hid hS
     have HX9 := Lib.hid hX
     clear hdr hget hdr1 hrd hbr hE HE HB hS hX
     have hb0 : 0 ≤ b := by omega
     have hcase : (b < n ∧ (rd_T43 l1 b).f0 = 3) ∨ (b < n ∧ (rd_T43 l1 b).f0 ≠ 3) ∨ b = n := by
      by_cases h1 : b < n
      ·by_cases h2 : (rd_T43 l1 b).f0 = 3
       ·exact .inl ⟨h1, h2⟩
       ·exact .inr (.inl ⟨h1, h2⟩)
      ·exact .inr (.inr (by omega))
     rcases hcase with ⟨h1, h2⟩ | ⟨h1, h2⟩ | h1
     ·obtain ⟨ad1, e1, p0, _⟩ := at_T43 (Kd.C_below HA1.out hB) b hb0 (by have := HN.out; omega)
      cases e1
      obtain ⟨i43, hi43, _, hz43, _⟩ := info_parts info43
      have hcD := cut_mid (P := Try.prog) 22 43 .i64 .i64 Try.underlying22 hi43 5 hz43 (some ad1) n c1 b (b + 1) hb0 (by omega) (by omega) (by omega)
      have hcL := cut_mid (P := Try.prog) 22 43 .i64 .i64 Try.underlying22 hi43 5 hz43 (some ad1) n c1 fr b hfr hfb hbn (by omega)
      rw [h2] at p0
      have HH2 := Lib.hid h2
      clear h2
      go_wp2_with fail
      have hs0 := HS9.out
      obtain ⟨w4, hw4⟩ : ∃ w4, wr.drew = w4 := ⟨_, rfl⟩
      have hB4 : Below wr.heap.size wr w4 := by rw [← hw4]; exact below_drew1 (Below.refl _ _)
      have HB4 := Lib.hid hB4
      clear hs0 hB4
      refine Go.Mix.region_mix' (fun b W => Below wr.heap.size wr W) 99 12 [0] (by kernel_rfl) (by kernel_rfl) (fun _ _ _ _ _ h => h) (by rw [hw4]; exact HB4.out) ?_
      clear hw4
      refine Go.Mix.seqE_cons (t' := #[_, _, _, _, _, _, _, _, _, _, _, _, _, _, _, _, _, _, _, _, _, _, _, _, _, _, _, _, _, _, _, _, _, _, _, _, _, _, _, _, _, _, _, _, _, _, _, _, _, _, _, _, _, _, _, _, _, _, _, _, _, _, _, _, _, _, _, _, _, _, _, _, _, _]) _ _ rfl rfl (fun w' => rfl) rfl ?_
      refine Go.Mix.seqE_nil ?_
      apply Go.Mix.seqM_skip (by rfl)
      repeat
       apply Go.Mix.seqM_cons (by rfl) (by rfl)
       focus
        intro bb W hS
        have x0 := blk_cell (blk_below HX9.out hS) 0
        simp only [List.getElem?_toArray, List.getElem?_cons_zero] at x0
        have HSS := Lib.hid hS
        clear hS
        go_wp2
        exact Go.Det.AtEnd.mk HSS.out
      refine Go.Mix.seqM_nil ?_
      intro W hS
      have HSS := Lib.hid hS
      clear hS
      simp only [List.drop_succ_cons, List.drop_zero]
      go_wp2_with fail
      have hWB : Below w.heap.size w W := hB.trans (HSS.out.mono hB.size)
      have hNN := HN.out
      have hsub := Kd.C_mid (lo := fr.toNat) (hi := b.toNat) (c := c1) (Kd.C_below HA1.out hWB) (by omega) (by omega) hc1
      rw [if_neg (by omega)] at hsub
      have hdash := Kd.C_mid (lo := b.toNat) (hi := (b + 1).toNat) (c := c1) (Kd.C_below HA1.out hWB) (by omega) (by omega) hc1
      rw [if_neg (by omega)] at hdash
      have hsc := set_calls A0 c0 l0 (some (ad1.add (fr.toNat * 5))) (c1 - fr.toNat) ((l1.take b.toNat).drop fr.toNat) a2 (b == (n : Int)) (some (ad1.add (b.toNat * 5))) (c1 - b.toNat) ((l1.take (b + 1).toNat).drop b.toNat) W hc0 (Kd.C_below HT0.out hWB) hsub hdash
       (by rw [List.length_drop, List.length_take]; omega) (by rw [List.length_drop, List.length_take]; omega) (fun x hx => HKS.out x (List.mem_of_mem_take (List.mem_of_mem_drop hx))) (fun x hx => HKS.out x (List.mem_of_mem_take (List.mem_of_mem_drop hx)))
      have len1 : ((l1.take b.toNat).drop fr.toNat).length = b.toNat - fr.toNat := by rw [List.length_drop, List.length_take]; omega
      have len2 : ((l1.take (b + 1).toNat).drop b.toNat).length = (b + 1).toNat - b.toNat := by rw [List.length_drop, List.length_take]; omega
      rw [len1, len2] at hsc
      refine hsc.mono ?_
      rintro _ W2 ⟨v2, rfl, ho2, hb2⟩
      have HO2 := Lib.hid ho2
      have HW2 := Lib.hid hb2
      have HWB := Lib.hid hWB
      clear hsub hdash hsc len1 len2 ho2 hb2 hWB hNN
      obtain ⟨L, hL⟩ : ∃ L, setP l0 ((l1.take b.toNat).drop fr.toNat) a2 (b == (n : Int)) ((l1.take (b + 1).toNat).drop b.toNat) = L := ⟨_, rfl⟩
      have ho2' := HO2.out
      rw [hL] at ho2'
      have HO3 := Lib.hid ho2'
      clear ho2' HO2
      rw [hL]
      have HLL := Lib.hid hL
      clear hL
      go_wp2_with (at_builtin; refine Kd.S_append k55 (w0 := wr) (w.heap.size + 1) rfl _ _ 45 55 (.agg #[(.slice none 0 0), (.int .i64 0), (.int .i64 0)]) 40 rfl Try.underlying45 info55 rfl (by decide) (by decide) _ done L [v2, .int .i64 L.f1, .int .i64 L.f2] (fun _ => True) (fun k => v2.ownBlock = some k) rfl rfl ?g1 ?g2 ?g3 ?g4 ?g5 ?g6 ?g7 ?g8)
      case g1 => exact k55_mkM _ _ _ L (own_R57 (own_weaken HO3.out (by have := blk_lt HX9.out; have := HSS.out.size; omega)) _ (fun k hk => hk))
      case g2 =>
       intro j hj
       refine ⟨trivial, fun e => ?_⟩
       have q1 := own_base HO3.out j hj
       have q2 := HSS.out.size
       obtain ⟨inner, ho⟩ := Kd.S_own HS9.out
       rcases ho.2 with ⟨rfl, _⟩ | ⟨g, cap, cur, rfl, _, hg, _⟩
       ·cases e
       ·have := blk_lt hg
        have e' : some j = (Value.slice (some ⟨g, 0, none⟩) done.length cap).ownBlock := e
        obtain rfl : j = g := by simpa [Value.ownBlock] using e'
        omega
      case g3 => exact fun _ _ => trivial
      case g4 => exact Kd.S_mono (Kd.S_below (Kd.S_below (Kd.S_bound HS9.out) HSS.out) HW2.out) (fun j hj => ⟨trivial, fun e => by have q1 := own_base HO3.out j e; have q2 := HSS.out.size; have q3 := hj.2.2.1; omega⟩)
      case g5 => exact (HSS.out.mono (by have := blk_lt HX9.out; omega)).trans (HW2.out.mono (by have := blk_lt HX9.out; have := HSS.out.size; omega))
      case g6 => have := blk_lt HX9.out; have := HSS.out.size; have := HW2.out.size; omega
      case g7 => have := HL.out; omega
      case g8 =>
       intro v1 w5 hS1 hB1 hg1 hat1
       have HSN := Lib.hid hS1
       have HBN := Lib.hid (hB.trans (hB1.mono (by omega)))
       have HXN := Lib.hid ((hB1.block w.heap.size (by omega)).trans HX9.out)
       clear hS1 hB1 hg1 hat1
       go_wp2
       refine ⟨⟨k + 1, b + 1, done ++ [L], ?_, by omega, ?_, by omega, HSN.out, ?_, ?_, ?_, HBN.out, HXN.out⟩, ?_⟩
       ·simp
       ·rfl
       ·show (done ++ [L]).length = k + 1
        have := HL.out
        simp; omega
       ·have hL2 : L = lineOf l0 l1 a2 fr b := by
         have hN := HN.out
         rw [← HLL.out]
         unfold lineOf dashOf
         rw [if_pos ⟨by omega, HH2.out⟩, show (b + 1).toNat = b.toNat + 1 by omega, cut_one l1 b.toNat (by omega), Int.toNat_of_nonneg hb0, hN]
        show (done ++ [L]) ++ linesFrom l0 l1 a2 (b + 1) (l3.drop (k + 1)) = _
        rw [hL2, HD1.out]
        exact HE1.out
       ·show brOk n (b + 1) (l3.drop (k + 1)) = true
        rw [HD1.out]
        exact HB1.out
       ·simp [intOf]; omega
     ·obtain ⟨ad1, e1, p0, _⟩ := at_T43 (Kd.C_below HA1.out hB) b hb0 (by have := HN.out; omega)
      cases e1
      obtain ⟨i43, hi43, _, hz43, _⟩ := info_parts info43
      have hcL := cut_mid (P := Try.prog) 22 43 .i64 .i64 Try.underlying22 hi43 5 hz43 (some ad1) n c1 fr b hfr hfb hbn (by omega)
      have h2b := beq_eq_false_iff_ne.2 h2
      have HH2 : Hid (¬ (rd_T43 l1 b).f0 = 3) := h2
      clear h2
      go_wp2_with fail
      have hs0 := HS9.out
      obtain ⟨w4, hw4⟩ : ∃ w4, wr.drew = w4 := ⟨_, rfl⟩
      have hB4 : Below wr.heap.size wr w4 := by rw [← hw4]; exact below_drew1 (Below.refl _ _)
      have HB4 := Lib.hid hB4
      clear hs0 hB4
      refine Go.Mix.region_mix' (fun b W => Below wr.heap.size wr W) 99 12 [0] (by kernel_rfl) (by kernel_rfl) (fun _ _ _ _ _ h => h) (by rw [hw4]; exact HB4.out) ?_
      clear hw4
      refine Go.Mix.seqE_cons (t' := #[_, _, _, _, _, _, _, _, _, _, _, _, _, _, _, _, _, _, _, _, _, _, _, _, _, _, _, _, _, _, _, _, _, _, _, _, _, _, _, _, _, _, _, _, _, _, _, _, _, _, _, _, _, _, _, _, _, _, _, _, _, _, _, _, _, _, _, _, _, _, _, _, _, _]) _ _ rfl rfl (fun w' => rfl) rfl ?_
      refine Go.Mix.seqE_nil ?_
      apply Go.Mix.seqM_skip (by rfl)
      repeat
       apply Go.Mix.seqM_cons (by rfl) (by rfl)
       focus
        intro bb W hS
        have x0 := blk_cell (blk_below HX9.out hS) 0
        simp only [List.getElem?_toArray, List.getElem?_cons_zero] at x0
        have HSS := Lib.hid hS
        clear hS
        go_wp2
        exact Go.Det.AtEnd.mk HSS.out
      refine Go.Mix.seqM_nil ?_
      intro W hS
      have HSS := Lib.hid hS
      clear hS
      simp only [List.drop_succ_cons, List.drop_zero]
      go_wp2_with fail
      have hWB : Below w.heap.size w W := hB.trans (HSS.out.mono hB.size)
      have hNN := HN.out
      have hsub := Kd.C_mid (lo := fr.toNat) (hi := b.toNat) (c := c1) (Kd.C_below HA1.out hWB) (by omega) (by omega) hc1
      rw [if_neg (by omega)] at hsub
      have hdash : Kd.C k43 W none ([] : List S43).length [] := ⟨rfl, by simp, fun hp => absurd hp (by simp)⟩
      have hsc := set_calls A0 c0 l0 (some (ad1.add (fr.toNat * 5))) (c1 - fr.toNat) ((l1.take b.toNat).drop fr.toNat) a2 (b == (n : Int)) none 0 [] W hc0 (Kd.C_below HT0.out hWB) hsub hdash
       (by rw [List.length_drop, List.length_take]; omega) (by simp) (fun x hx => HKS.out x (List.mem_of_mem_take (List.mem_of_mem_drop hx))) (fun x hx => by cases hx)
      have len1 : ((l1.take b.toNat).drop fr.toNat).length = b.toNat - fr.toNat := by rw [List.length_drop, List.length_take]; omega
      rw [len1] at hsc
      refine hsc.mono ?_
      rintro _ W2 ⟨v2, rfl, ho2, hb2⟩
      have HO2 := Lib.hid ho2
      have HW2 := Lib.hid hb2
      have HWB := Lib.hid hWB
      clear hsub hdash hsc len1 ho2 hb2 hWB hNN
      obtain ⟨L, hL⟩ : ∃ L, setP l0 ((l1.take b.toNat).drop fr.toNat) a2 (b == (n : Int)) [] = L := ⟨_, rfl⟩
      have ho2' := HO2.out
      rw [hL] at ho2'
      have HO3 := Lib.hid ho2'
      clear ho2' HO2
      rw [hL]
      have HLL := Lib.hid hL
      clear hL
      go_wp2_with (at_builtin; refine Kd.S_append k55 (w0 := wr) (w.heap.size + 1) rfl _ _ 45 55 (.agg #[(.slice none 0 0), (.int .i64 0), (.int .i64 0)]) 40 rfl Try.underlying45 info55 rfl (by decide) (by decide) _ done L [v2, .int .i64 L.f1, .int .i64 L.f2] (fun _ => True) (fun k => v2.ownBlock = some k) rfl rfl ?g1 ?g2 ?g3 ?g4 ?g5 ?g6 ?g7 ?g8)
      case g1 => exact k55_mkM _ _ _ L (own_R57 (own_weaken HO3.out (by have := blk_lt HX9.out; have := HSS.out.size; omega)) _ (fun k hk => hk))
      case g2 =>
       intro j hj
       refine ⟨trivial, fun e => ?_⟩
       have q1 := own_base HO3.out j hj
       have q2 := HSS.out.size
       obtain ⟨inner, ho⟩ := Kd.S_own HS9.out
       rcases ho.2 with ⟨rfl, _⟩ | ⟨g, cap, cur, rfl, _, hg, _⟩
       ·cases e
       ·have := blk_lt hg
        have e' : some j = (Value.slice (some ⟨g, 0, none⟩) done.length cap).ownBlock := e
        obtain rfl : j = g := by simpa [Value.ownBlock] using e'
        omega
      case g3 => exact fun _ _ => trivial
      case g4 => exact Kd.S_mono (Kd.S_below (Kd.S_below (Kd.S_bound HS9.out) HSS.out) HW2.out) (fun j hj => ⟨trivial, fun e => by have q1 := own_base HO3.out j e; have q2 := HSS.out.size; have q3 := hj.2.2.1; omega⟩)
      case g5 => exact (HSS.out.mono (by have := blk_lt HX9.out; omega)).trans (HW2.out.mono (by have := blk_lt HX9.out; have := HSS.out.size; omega))
      case g6 => have := blk_lt HX9.out; have := HSS.out.size; have := HW2.out.size; omega
      case g7 => have := HL.out; omega
      case g8 =>
       intro v1 w5 hS1 hB1 hg1 hat1
       have HSN := Lib.hid hS1
       have HBN := Lib.hid (hB.trans (hB1.mono (by omega)))
       have HXN := Lib.hid ((hB1.block w.heap.size (by omega)).trans HX9.out)
       clear hS1 hB1 hg1 hat1
       go_wp2
       refine ⟨⟨k + 1, b + 1, done ++ [L], ?_, by omega, ?_, by omega, HSN.out, ?_, ?_, ?_, HBN.out, HXN.out⟩, ?_⟩
       ·simp
       ·rfl
       ·show (done ++ [L]).length = k + 1
        have := HL.out
        simp; omega
       ·have hL2 : L = lineOf l0 l1 a2 fr b := by
         have hN := HN.out
         rw [← HLL.out]
         unfold lineOf dashOf
         rw [if_neg (fun h => HH2.out h.2), hN]
        show (done ++ [L]) ++ linesFrom l0 l1 a2 (b + 1) (l3.drop (k + 1)) = _
        rw [hL2, HD1.out]
        exact HE1.out
       ·show brOk n (b + 1) (l3.drop (k + 1)) = true
        rw [HD1.out]
        exact HB1.out
       ·simp [intOf]; omega
     ·subst h1
      have h2 : ¬ (n : Int) < (n : Int) := by omega
      obtain ⟨i43, hi43, _, hz43, _⟩ := info_parts info43
      have hNN := HN.out
      obtain ⟨AL, hcL, hcut⟩ : ∃ AL, (∀ W : World, (Instr.slice 22 (.slice A1 n c1) (some (.int .i64 fr)) (some (.int .i64 (n : Int))) none).run Try.prog W = .ok (.slice AL (n - fr.toNat) (c1 - fr.toNat)) W) ∧ (∀ W, Kd.C k43 W A1 l1.length l1 → Kd.C k43 W AL ((l1.take n).drop fr.toNat).length ((l1.take n).drop fr.toNat)) :=
       ⟨_, cut_mid (P := Try.prog) 22 43 .i64 .i64 Try.underlying22 hi43 5 hz43 A1 n c1 fr (n : Int) hfr hfb hbn (by omega), fun W hC => Kd.C_mid (lo := fr.toNat) (hi := n) (c := c1) hC (by omega) (by omega) hc1⟩
      have HCUT := Lib.hid hcut
      clear hcut hNN
      go_wp2_with fail
      have hs0 := HS9.out
      obtain ⟨w4, hw4⟩ : ∃ w4, wr.drew = w4 := ⟨_, rfl⟩
      have hB4 : Below wr.heap.size wr w4 := by rw [← hw4]; exact below_drew1 (Below.refl _ _)
      have HB4 := Lib.hid hB4
      clear hs0 hB4
      refine Go.Mix.region_mix' (fun b W => Below wr.heap.size wr W) 99 12 [0] (by kernel_rfl) (by kernel_rfl) (fun _ _ _ _ _ h => h) (by rw [hw4]; exact HB4.out) ?_
      clear hw4
      refine Go.Mix.seqE_cons (t' := #[_, _, _, _, _, _, _, _, _, _, _, _, _, _, _, _, _, _, _, _, _, _, _, _, _, _, _, _, _, _, _, _, _, _, _, _, _, _, _, _, _, _, _, _, _, _, _, _, _, _, _, _, _, _, _, _, _, _, _, _, _, _, _, _, _, _, _, _, _, _, _, _, _, _]) _ _ rfl rfl (fun w' => rfl) rfl ?_
      refine Go.Mix.seqE_nil ?_
      apply Go.Mix.seqM_skip (by rfl)
      repeat
       apply Go.Mix.seqM_cons (by rfl) (by rfl)
       focus
        intro bb W hS
        have x0 := blk_cell (blk_below HX9.out hS) 0
        simp only [List.getElem?_toArray, List.getElem?_cons_zero] at x0
        have HSS := Lib.hid hS
        clear hS
        go_wp2
        exact Go.Det.AtEnd.mk HSS.out
      refine Go.Mix.seqM_nil ?_
      intro W hS
      have HSS := Lib.hid hS
      clear hS
      simp only [List.drop_succ_cons, List.drop_zero]
      go_wp2_with fail
      have hWB : Below w.heap.size w W := hB.trans (HSS.out.mono hB.size)
      have hNN := HN.out
      have hsub := HCUT.out W (Kd.C_below HA1.out hWB)
      have hdash : Kd.C k43 W none ([] : List S43).length [] := ⟨rfl, by simp, fun hp => absurd hp (by simp)⟩
      have hsc := set_calls A0 c0 l0 AL (c1 - fr.toNat) ((l1.take n).drop fr.toNat) a2 true none 0 [] W hc0 (Kd.C_below HT0.out hWB) hsub hdash
       (by rw [List.length_drop, List.length_take]; omega) (by simp) (fun x hx => HKS.out x (List.mem_of_mem_take (List.mem_of_mem_drop hx))) (fun x hx => by cases hx)
      have len1 : ((l1.take n).drop fr.toNat).length = n - fr.toNat := by rw [List.length_drop, List.length_take]; omega
      rw [len1] at hsc
      refine hsc.mono ?_
      rintro _ W2 ⟨v2, rfl, ho2, hb2⟩
      have HO2 := Lib.hid ho2
      have HW2 := Lib.hid hb2
      have HWB := Lib.hid hWB
      clear hsub hdash hsc len1 ho2 hb2 hWB hNN
      obtain ⟨L, hL⟩ : ∃ L, setP l0 ((l1.take n).drop fr.toNat) a2 true [] = L := ⟨_, rfl⟩
      have ho2' := HO2.out
      rw [hL] at ho2'
      have HO3 := Lib.hid ho2'
      clear ho2' HO2
      rw [hL]
      have HLL := Lib.hid hL
      clear hL
      go_wp2_with (at_builtin; refine Kd.S_append k55 (w0 := wr) (w.heap.size + 1) rfl _ _ 45 55 (.agg #[(.slice none 0 0), (.int .i64 0), (.int .i64 0)]) 40 rfl Try.underlying45 info55 rfl (by decide) (by decide) _ done L [v2, .int .i64 L.f1, .int .i64 L.f2] (fun _ => True) (fun k => v2.ownBlock = some k) rfl rfl ?g1 ?g2 ?g3 ?g4 ?g5 ?g6 ?g7 ?g8)
      case g1 => exact k55_mkM _ _ _ L (own_R57 (own_weaken HO3.out (by have := blk_lt HX9.out; have := HSS.out.size; omega)) _ (fun k hk => hk))
      case g2 =>
       intro j hj
       refine ⟨trivial, fun e => ?_⟩
       have q1 := own_base HO3.out j hj
       have q2 := HSS.out.size
       obtain ⟨inner, ho⟩ := Kd.S_own HS9.out
       rcases ho.2 with ⟨rfl, _⟩ | ⟨g, cap, cur, rfl, _, hg, _⟩
       ·cases e
       ·have := blk_lt hg
        have e' : some j = (Value.slice (some ⟨g, 0, none⟩) done.length cap).ownBlock := e
        obtain rfl : j = g := by simpa [Value.ownBlock] using e'
        omega
      case g3 => exact fun _ _ => trivial
      case g4 => exact Kd.S_mono (Kd.S_below (Kd.S_below (Kd.S_bound HS9.out) HSS.out) HW2.out) (fun j hj => ⟨trivial, fun e => by have q1 := own_base HO3.out j e; have q2 := HSS.out.size; have q3 := hj.2.2.1; omega⟩)
      case g5 => exact (HSS.out.mono (by have := blk_lt HX9.out; omega)).trans (HW2.out.mono (by have := blk_lt HX9.out; have := HSS.out.size; omega))
      case g6 => have := blk_lt HX9.out; have := HSS.out.size; have := HW2.out.size; omega
      case g7 => have := HL.out; omega
      case g8 =>
       intro v1 w5 hS1 hB1 hg1 hat1
       have HSN := Lib.hid hS1
       have HBN := Lib.hid (hB.trans (hB1.mono (by omega)))
       have HXN := Lib.hid ((hB1.block w.heap.size (by omega)).trans HX9.out)
       clear hS1 hB1 hg1 hat1
       go_wp2
       refine ⟨⟨k + 1, (n : Int) + 1, done ++ [L], ?_, by omega, ?_, by omega, HSN.out, ?_, ?_, ?_, HBN.out, HXN.out⟩, ?_⟩
       ·simp
       ·rfl
       ·show (done ++ [L]).length = k + 1
        have := HL.out
        simp; omega
       ·have hL2 : L = lineOf l0 l1 a2 fr (n : Int) := by
         have hN := HN.out
         rw [← HLL.out]
         unfold lineOf dashOf
         rw [if_neg (fun h => by have := h.1; omega), hN, beq_self_eq_true, Int.toNat_natCast]
        show (done ++ [L]) ++ linesFrom l0 l1 a2 ((n : Int) + 1) (l3.drop (k + 1)) = _
        rw [hL2, HD1.out]
        exact HE1.out
       ·show brOk n ((n : Int) + 1) (l3.drop (k + 1)) = true
        rw [HD1.out]
        exact HB1.out
       ·simp [intOf]; omega
    ·obtain rfl : k = m := by omega
     have hlt1 : ¬ (k : Int) < (k : Int) := by omega
     have hE := HE.out
     rw [List.drop_of_length_le (by have := HM.out; omega)] at hE
     simp only [linesFrom, List.append_nil] at hE
     have HS9 := Lib.hid hS
     have HX9 := Lib.hid hX
     have HE9 := Lib.hid hE
     clear hS hX hE
     go_wp2
     go_ret2
     exact ⟨_, rfl, by rw [← HE9.out]; exact Kd.S_lower HS9.out (by omega), hB⟩
 ·have hd2b : (d2 == 0) = false := beq_eq_false_iff_ne.2 hd2
  have hH := H.out
  rw [if_neg hd2] at hH
  cases hH
  clear H
  go_wp2
  go_ret2
  exact ⟨_, rfl, Kd.S_nil _ _ _ _ _, HB2.out⟩
end Go.Proofs.Ytbddfnmhhmkfkaa.Pr
namespace Go.Proofs.Ytbddfnmhhmkfkaa.Pr
open Go.RowKit Go.Proofs.YtbddfnmhhmkfkaaW.PrintWords Go.Proofs.YtbddfnmhhmkfkaaW.PrintLast Go.Proofs.YtbddfnmhhmkfkaaW.PrintMore
set_option linter.unusedVariables false
set_option linter.unusedSimpArgs false
def abcT : List S101 := [⟨1, 97, 0⟩, ⟨1, 32, 0⟩, ⟨1, 98, 0⟩, ⟨1, 32, 0⟩, ⟨1, 99, 0⟩]
def abcI : List S43 := [⟨1, 10, 0, 0, 0⟩, ⟨2, 10, 5, 5, 1⟩, ⟨1, 10, 0, 0, 2⟩, ⟨2, 10, 5, 5, 3⟩, ⟨1, 10, 0, 0, 4⟩]
def s20_abc.f (k : Nat) : Option (List S101 × List S43) := some (abcT, abcI)
theorem s20_abc.mono : ∀ k, LeO (s20_abc.f k ) (s20_abc.f (k + 1) ) := fun _ => LeO.refl _
set_option maxRecDepth 100000 in
set_option maxHeartbeats 4000000 in
theorem s20_abc.calls (k : Nat) (r1 : List (S101)) (r2 : List (S43)) (w : World) (h : s20_abc.f k = some (r1, r2)) :
  Calls Try.prog 79 #[] w fun e w' => ∃ v0_ v1_ : Value, e = .returned (.tuple #[v0_, v1_]) ∧ Kd.R k101 101 w' w.heap.size (fun _ => True) v0_ r1 ∧ Kd.R k43 43 w' w.heap.size (fun _ => True) v1_ r2 ∧ Below w.heap.size w w' := by
 have h1 : abcT = r1 := congrArg (fun p => p.1) (Option.some.inj h)
 have h2 : abcI = r2 := congrArg (fun p => p.2) (Option.some.inj h)
 have H1 := Lib.hid h1
 have H2 := Lib.hid h2
 clear h h1 h2
 go_enter Try.func79, Try.ntmps79
 go_wp2_with fail
 go_loopw [2, 3, 4] (fun v2 v3 v4 wr => ∃ (k : Nat), v4 = .int .i64 k ∧ k ≤ 5 ∧ Aside0 (Kd.R k101 101 wr w.heap.size (fun _ => True) v2 (abcT.take k)) ∧ Aside0 (Kd.R k43 43 wr w.heap.size (fun _ => True) v3 (abcI.take k)) ∧ Aside0 (Below w.heap.size w wr)) (fun _ _ v _ => 5 - (intOf v).toNat)
 case atStart => exact ⟨0, rfl, by omega, ⟨Kd.R_nil _ _ _ _ _⟩, ⟨Kd.R_nil _ _ _ _ _⟩, ⟨Below.refl _ _⟩⟩
 case round =>
  obtain ⟨k, rfl, hk, HT, HI, HB⟩ := hrel
  rcases (show k = 5 ∨ k = 0 ∨ k = 1 ∨ k = 2 ∨ k = 3 ∨ k = 4 by omega) with rfl | rfl | rfl | rfl | rfl | rfl
  ·go_wp2
   go_ret2
   exact ⟨_, _, rfl, by rw [← H1.out]; exact HT.out, by rw [← H2.out]; exact HI.out, HB.out⟩
  ·go_wp2_with (at_builtin; refine Kd.R_append k101 (w0 := w) w.heap.size rfl (.tmp 10) (.tmp 14) 44 101 (.agg #[(.int .i64 0), (.int .u8 0), (.int .i64 0)]) 24 rfl Try.underlying44 info101 rfl (by decide) (by omega) u2 (abcT.take 0) (⟨1, 97, 0⟩ : S101) [.int .i64 1, .int .u8 97, .int .i64 0] (fun _ => True) (fun _ => False) rfl rfl (k101_mkM _ _ _ (⟨1, 97, 0⟩ : S101)) (fun _ hk => hk.elim) (fun _ _ => trivial) HT.out HB.out HB.out.size ?aL0 ?aN0)
   case aL0 => simp [abcT]
   case aN0 =>
    intro v1 w1 ho hb hg hat
    have HI1 := Aside0.mk (Kd.R_over' HI.out (Kd.R_typed HT.out) (by decide) hg)
    have HT1 : Aside0 (Kd.R k101 101 w1 w.heap.size (fun _ => True) v1 (abcT.take (0 + 1))) := Aside0.mk ho
    have HB1 := Aside0.mk hb
    clear HI HT HB ho hb hg hat
    go_wp2_with (at_builtin; refine Kd.R_append k43 (w0 := w) w.heap.size rfl (.tmp 23) (.tmp 25) 22 43 (.agg #[(.int .i64 0), (.int .i64 0), (.int .i64 0), (.int .i64 0), (.int .i64 0)]) 40 rfl Try.underlying22 info43 rfl (by decide) (by omega) u3 (abcI.take 0) (⟨1, 10, 0, 0, 0⟩ : S43) [.int .i64 1, .int .i64 10, .int .i64 0, .int .i64 0, .int .i64 0] (fun _ => True) (fun _ => False) rfl (by first | (go_simp; done) | (go_simp; rfl)) (k43_mkM _ _ _ (⟨1, 10, 0, 0, 0⟩ : S43)) (fun _ hk => hk.elim) (fun _ _ => trivial) (Kd.R_alloc HI1.out _) (HB1.out.alloc HB1.out.size _) (by have := HB1.out.size; simp; omega) ?bL0 ?bN0)
    case bL0 => simp [abcI]
    case bN0 =>
     intro v2 w2 ho hb hg hat
     have HT2 := Aside0.mk (Kd.R_over' (Kd.R_alloc HT1.out _) (Kd.R_typed (Kd.R_alloc HI1.out _)) (by decide) hg)
     have HI2 : Aside0 (Kd.R k43 43 w2 w.heap.size (fun _ => True) v2 (abcI.take (0 + 1))) := Aside0.mk ho
     have HB2 := Aside0.mk hb
     clear HI1 HT1 HB1 ho hb hg hat
     go_wp2
     refine ⟨⟨0 + 1, by simp, by omega, HT2, HI2, HB2⟩, by simp [intOf]⟩
  ·go_wp2_with (at_builtin; refine Kd.R_append k101 (w0 := w) w.heap.size rfl (.tmp 10) (.tmp 14) 44 101 (.agg #[(.int .i64 0), (.int .u8 0), (.int .i64 0)]) 24 rfl Try.underlying44 info101 rfl (by decide) (by omega) u2 (abcT.take 1) (⟨1, 32, 0⟩ : S101) [.int .i64 1, .int .u8 32, .int .i64 0] (fun _ => True) (fun _ => False) rfl rfl (k101_mkM _ _ _ (⟨1, 32, 0⟩ : S101)) (fun _ hk => hk.elim) (fun _ _ => trivial) HT.out HB.out HB.out.size ?aL1 ?aN1)
   case aL1 => simp [abcT]
   case aN1 =>
    intro v1 w1 ho hb hg hat
    have HI1 := Aside0.mk (Kd.R_over' HI.out (Kd.R_typed HT.out) (by decide) hg)
    have HT1 : Aside0 (Kd.R k101 101 w1 w.heap.size (fun _ => True) v1 (abcT.take (1 + 1))) := Aside0.mk ho
    have HB1 := Aside0.mk hb
    clear HI HT HB ho hb hg hat
    go_wp2_with (at_builtin; refine Kd.R_append k43 (w0 := w) w.heap.size rfl (.tmp 23) (.tmp 25) 22 43 (.agg #[(.int .i64 0), (.int .i64 0), (.int .i64 0), (.int .i64 0), (.int .i64 0)]) 40 rfl Try.underlying22 info43 rfl (by decide) (by omega) u3 (abcI.take 1) (⟨2, 10, 5, 5, 1⟩ : S43) [.int .i64 2, .int .i64 10, .int .i64 5, .int .i64 5, .int .i64 1] (fun _ => True) (fun _ => False) rfl (by first | (go_simp; done) | (go_simp; rfl)) (k43_mkM _ _ _ (⟨2, 10, 5, 5, 1⟩ : S43)) (fun _ hk => hk.elim) (fun _ _ => trivial) (Kd.R_alloc HI1.out _) (HB1.out.alloc HB1.out.size _) (by have := HB1.out.size; simp; omega) ?bL1 ?bN1)
    case bL1 => simp [abcI]
    case bN1 =>
     intro v2 w2 ho hb hg hat
     have HT2 := Aside0.mk (Kd.R_over' (Kd.R_alloc HT1.out _) (Kd.R_typed (Kd.R_alloc HI1.out _)) (by decide) hg)
     have HI2 : Aside0 (Kd.R k43 43 w2 w.heap.size (fun _ => True) v2 (abcI.take (1 + 1))) := Aside0.mk ho
     have HB2 := Aside0.mk hb
     clear HI1 HT1 HB1 ho hb hg hat
     go_wp2
     refine ⟨⟨1 + 1, by simp, by omega, HT2, HI2, HB2⟩, by simp [intOf]⟩
  ·go_wp2_with (at_builtin; refine Kd.R_append k101 (w0 := w) w.heap.size rfl (.tmp 10) (.tmp 14) 44 101 (.agg #[(.int .i64 0), (.int .u8 0), (.int .i64 0)]) 24 rfl Try.underlying44 info101 rfl (by decide) (by omega) u2 (abcT.take 2) (⟨1, 98, 0⟩ : S101) [.int .i64 1, .int .u8 98, .int .i64 0] (fun _ => True) (fun _ => False) rfl rfl (k101_mkM _ _ _ (⟨1, 98, 0⟩ : S101)) (fun _ hk => hk.elim) (fun _ _ => trivial) HT.out HB.out HB.out.size ?aL2 ?aN2)
   case aL2 => simp [abcT]
   case aN2 =>
    intro v1 w1 ho hb hg hat
    have HI1 := Aside0.mk (Kd.R_over' HI.out (Kd.R_typed HT.out) (by decide) hg)
    have HT1 : Aside0 (Kd.R k101 101 w1 w.heap.size (fun _ => True) v1 (abcT.take (2 + 1))) := Aside0.mk ho
    have HB1 := Aside0.mk hb
    clear HI HT HB ho hb hg hat
    go_wp2_with (at_builtin; refine Kd.R_append k43 (w0 := w) w.heap.size rfl (.tmp 23) (.tmp 25) 22 43 (.agg #[(.int .i64 0), (.int .i64 0), (.int .i64 0), (.int .i64 0), (.int .i64 0)]) 40 rfl Try.underlying22 info43 rfl (by decide) (by omega) u3 (abcI.take 2) (⟨1, 10, 0, 0, 2⟩ : S43) [.int .i64 1, .int .i64 10, .int .i64 0, .int .i64 0, .int .i64 2] (fun _ => True) (fun _ => False) rfl (by first | (go_simp; done) | (go_simp; rfl)) (k43_mkM _ _ _ (⟨1, 10, 0, 0, 2⟩ : S43)) (fun _ hk => hk.elim) (fun _ _ => trivial) (Kd.R_alloc HI1.out _) (HB1.out.alloc HB1.out.size _) (by have := HB1.out.size; simp; omega) ?bL2 ?bN2)
    case bL2 => simp [abcI]
    case bN2 =>
     intro v2 w2 ho hb hg hat
     have HT2 := Aside0.mk (Kd.R_over' (Kd.R_alloc HT1.out _) (Kd.R_typed (Kd.R_alloc HI1.out _)) (by decide) hg)
     have HI2 : Aside0 (Kd.R k43 43 w2 w.heap.size (fun _ => True) v2 (abcI.take (2 + 1))) := Aside0.mk ho
     have HB2 := Aside0.mk hb
     clear HI1 HT1 HB1 ho hb hg hat
     go_wp2
     refine ⟨⟨2 + 1, by simp, by omega, HT2, HI2, HB2⟩, by simp [intOf]⟩
  ·go_wp2_with (at_builtin; refine Kd.R_append k101 (w0 := w) w.heap.size rfl (.tmp 10) (.tmp 14) 44 101 (.agg #[(.int .i64 0), (.int .u8 0), (.int .i64 0)]) 24 rfl Try.underlying44 info101 rfl (by decide) (by omega) u2 (abcT.take 3) (⟨1, 32, 0⟩ : S101) [.int .i64 1, .int .u8 32, .int .i64 0] (fun _ => True) (fun _ => False) rfl rfl (k101_mkM _ _ _ (⟨1, 32, 0⟩ : S101)) (fun _ hk => hk.elim) (fun _ _ => trivial) HT.out HB.out HB.out.size ?aL3 ?aN3)
   case aL3 => simp [abcT]
   case aN3 =>
    intro v1 w1 ho hb hg hat
    have HI1 := Aside0.mk (Kd.R_over' HI.out (Kd.R_typed HT.out) (by decide) hg)
    have HT1 : Aside0 (Kd.R k101 101 w1 w.heap.size (fun _ => True) v1 (abcT.take (3 + 1))) := Aside0.mk ho
    have HB1 := Aside0.mk hb
    clear HI HT HB ho hb hg hat
    go_wp2_with (at_builtin; refine Kd.R_append k43 (w0 := w) w.heap.size rfl (.tmp 23) (.tmp 25) 22 43 (.agg #[(.int .i64 0), (.int .i64 0), (.int .i64 0), (.int .i64 0), (.int .i64 0)]) 40 rfl Try.underlying22 info43 rfl (by decide) (by omega) u3 (abcI.take 3) (⟨2, 10, 5, 5, 3⟩ : S43) [.int .i64 2, .int .i64 10, .int .i64 5, .int .i64 5, .int .i64 3] (fun _ => True) (fun _ => False) rfl (by first | (go_simp; done) | (go_simp; rfl)) (k43_mkM _ _ _ (⟨2, 10, 5, 5, 3⟩ : S43)) (fun _ hk => hk.elim) (fun _ _ => trivial) (Kd.R_alloc HI1.out _) (HB1.out.alloc HB1.out.size _) (by have := HB1.out.size; simp; omega) ?bL3 ?bN3)
    case bL3 => simp [abcI]
    case bN3 =>
     intro v2 w2 ho hb hg hat
     have HT2 := Aside0.mk (Kd.R_over' (Kd.R_alloc HT1.out _) (Kd.R_typed (Kd.R_alloc HI1.out _)) (by decide) hg)
     have HI2 : Aside0 (Kd.R k43 43 w2 w.heap.size (fun _ => True) v2 (abcI.take (3 + 1))) := Aside0.mk ho
     have HB2 := Aside0.mk hb
     clear HI1 HT1 HB1 ho hb hg hat
     go_wp2
     refine ⟨⟨3 + 1, by simp, by omega, HT2, HI2, HB2⟩, by simp [intOf]⟩
  ·go_wp2_with (at_builtin; refine Kd.R_append k101 (w0 := w) w.heap.size rfl (.tmp 10) (.tmp 14) 44 101 (.agg #[(.int .i64 0), (.int .u8 0), (.int .i64 0)]) 24 rfl Try.underlying44 info101 rfl (by decide) (by omega) u2 (abcT.take 4) (⟨1, 99, 0⟩ : S101) [.int .i64 1, .int .u8 99, .int .i64 0] (fun _ => True) (fun _ => False) rfl rfl (k101_mkM _ _ _ (⟨1, 99, 0⟩ : S101)) (fun _ hk => hk.elim) (fun _ _ => trivial) HT.out HB.out HB.out.size ?aL4 ?aN4)
   case aL4 => simp [abcT]
   case aN4 =>
    intro v1 w1 ho hb hg hat
    have HI1 := Aside0.mk (Kd.R_over' HI.out (Kd.R_typed HT.out) (by decide) hg)
    have HT1 : Aside0 (Kd.R k101 101 w1 w.heap.size (fun _ => True) v1 (abcT.take (4 + 1))) := Aside0.mk ho
    have HB1 := Aside0.mk hb
    clear HI HT HB ho hb hg hat
    go_wp2_with (at_builtin; refine Kd.R_append k43 (w0 := w) w.heap.size rfl (.tmp 23) (.tmp 25) 22 43 (.agg #[(.int .i64 0), (.int .i64 0), (.int .i64 0), (.int .i64 0), (.int .i64 0)]) 40 rfl Try.underlying22 info43 rfl (by decide) (by omega) u3 (abcI.take 4) (⟨1, 10, 0, 0, 4⟩ : S43) [.int .i64 1, .int .i64 10, .int .i64 0, .int .i64 0, .int .i64 4] (fun _ => True) (fun _ => False) rfl (by first | (go_simp; done) | (go_simp; rfl)) (k43_mkM _ _ _ (⟨1, 10, 0, 0, 4⟩ : S43)) (fun _ hk => hk.elim) (fun _ _ => trivial) (Kd.R_alloc HI1.out _) (HB1.out.alloc HB1.out.size _) (by have := HB1.out.size; simp; omega) ?bL4 ?bN4)
    case bL4 => simp [abcI]
    case bN4 =>
     intro v2 w2 ho hb hg hat
     have HT2 := Aside0.mk (Kd.R_over' (Kd.R_alloc HT1.out _) (Kd.R_typed (Kd.R_alloc HI1.out _)) (by decide) hg)
     have HI2 : Aside0 (Kd.R k43 43 w2 w.heap.size (fun _ => True) v2 (abcI.take (4 + 1))) := Aside0.mk ho
     have HB2 := Aside0.mk hb
     clear HI1 HT1 HB1 ho hb hg hat
     go_wp2
     refine ⟨⟨4 + 1, by simp, by omega, HT2, HI2, HB2⟩, by simp [intOf]⟩
end Go.Proofs.Ytbddfnmhhmkfkaa.Pr
namespace Go.Proofs.Ytbddfnmhhmkfkaa.Pr
open Go.RowKit Go.Proofs.YtbddfnmhhmkfkaaW.PrintWords Go.Proofs.YtbddfnmhhmkfkaaW.PrintLast Go.Proofs.YtbddfnmhhmkfkaaW.PrintMore
attribute [local go_sem] max2_int min2_int max_two min_two max_three min_three max_four min_four
set_option linter.unusedVariables false
set_option linter.unusedSimpArgs false
mutual
def s20_is.j0 : Nat → List Int → List (S55) → Bool → Option (Bool)
 | 0, _, _, _ => none
 | k + 1, x4, x13, x62 => if x62 = true then (some false) else (s20_is.l0 k x4 x13 0)
def s20_is.l0 : Nat → List Int → List (S55) → Int → Option (Bool)
 | 0, _, _, _ => none
 | k + 1, x4, x13, x15 => if x15 < (x4.length : Int) then (if 0 < (x13.length : Int) then (if 0 ≤ x15 then (if x15 < (((rd_T55 x13 0).f0).length : Int) then (if ((rd_T57 ((rd_T55 x13 0).f0) x15).f0) = (rd x4 x15) then (if x15 < 5 then (if ((rd_T57 ((rd_T55 x13 0).f0) x15).f1) = (bt (⟨#[97, 32, 98, 32, 99]⟩ : ByteArray) x15) then (if ((rd_T57 ((rd_T55 x13 0).f0) x15).f3) = x15 then (s20_is.l0 k x4 x13 (wrap64 (x15 + 1))) else (some false)) else (some false)) else (none)) else (some false)) else (none)) else (none)) else (none)) else (some true)
end
def s20_is.f (k : Nat) (a0 : Int) (l1 : List Int) (a2 : Int) (a3 : Int) (l4 : List Int) : Option (Bool) := (s20_abc.f k).bind fun bt407 => ((lines_Of.f bt407.1 bt407.2 a0 l1).bind fun bt413 => (if bt413.2 = 0 then (if (bt413.1.length : Int) = (l1.length : Int) then (if 0 < (bt413.1.length : Int) then (if ((rd_T55 bt413.1 0).f1) = a2 then (if ((rd_T55 bt413.1 0).f2) = a3 then (s20_is.j0 k l4 bt413.1 ((((rd_T55 bt413.1 0).f0).length : Int) != (l4.length : Int))) else (s20_is.j0 k l4 bt413.1 true)) else (s20_is.j0 k l4 bt413.1 true)) else (none)) else (s20_is.j0 k l4 bt413.1 true)) else (s20_is.j0 k l4 bt413.1 true)))
theorem s20_is.mono_l : ∀ k, (∀ y0 y1 y2, LeO (s20_is.j0 k y0 y1 y2) (s20_is.j0 (k + 1) y0 y1 y2)) ∧ (∀ y0 y1 y2, LeO (s20_is.l0 k y0 y1 y2) (s20_is.l0 (k + 1) y0 y1 y2))
 | 0 => ⟨fun _ _ _ r h => by simp [s20_is.j0] at h, fun _ _ _ r h => by simp [s20_is.l0] at h⟩
 | k + 1 => by
  obtain ⟨ih0, ih1⟩ := s20_is.mono_l k
  refine ⟨?_, ?_⟩
  ·intro y0 y1 y2
   unfold s20_is.j0
   repeat' first
   | (with_reducible exact ih0 _ _ _)
   | (with_reducible exact ih1 _ _ _)
   | (with_reducible exact s20_abc.mono _)
   | (with_reducible exact LeO.refl _)
   | (with_reducible exact LeO.none _)
   | (with_reducible refine LeO.ite ?_ ?_)
   | (with_reducible refine LeO.bind ?_ (fun _ => ?_))
   | exact ih0 _ _ _
   | exact ih1 _ _ _
   | exact s20_abc.mono _
   | exact LeO.none _
   | refine LeO.ite ?_ ?_
   | refine LeO.bind ?_ (fun _ => ?_)
  ·intro y0 y1 y2
   unfold s20_is.l0
   repeat' first
   | (with_reducible exact ih0 _ _ _)
   | (with_reducible exact ih1 _ _ _)
   | (with_reducible exact s20_abc.mono _)
   | (with_reducible exact LeO.refl _)
   | (with_reducible exact LeO.none _)
   | (with_reducible refine LeO.ite ?_ ?_)
   | (with_reducible refine LeO.bind ?_ (fun _ => ?_))
   | exact ih0 _ _ _
   | exact ih1 _ _ _
   | exact s20_abc.mono _
   | exact LeO.none _
   | refine LeO.ite ?_ ?_
   | refine LeO.bind ?_ (fun _ => ?_)
theorem s20_is.mono : ∀ a0 a1 a2 a3 a4 k, LeO (s20_is.f k a0 a1 a2 a3 a4) (s20_is.f (k + 1) a0 a1 a2 a3 a4) := by
 intro a0 a1 a2 a3 a4 k
 obtain ⟨ih0, ih1⟩ := s20_is.mono_l k
 unfold s20_is.f
 repeat' first
   | (with_reducible exact ih0 _ _ _)
   | (with_reducible exact ih1 _ _ _)
   | (with_reducible exact s20_abc.mono _)
   | (with_reducible exact LeO.refl _)
   | (with_reducible exact LeO.none _)
   | (with_reducible refine LeO.ite ?_ ?_)
   | (with_reducible refine LeO.bind ?_ (fun _ => ?_))
   | exact ih0 _ _ _
   | exact ih1 _ _ _
   | exact s20_abc.mono _
   | exact LeO.none _
   | refine LeO.ite ?_ ?_
   | refine LeO.bind ?_ (fun _ => ?_)
set_option maxHeartbeats 8000000 in
set_option maxRecDepth 100000 in
theorem s20_is.calls (k : Nat) (a0 : Int) (A1 : Option Addr) (c1 : Nat) (l1 : List Int) (a2 : Int) (a3 : Int) (A4 : Option Addr) (c4 : Nat) (l4 : List Int) (r : Bool) (w : World) (hr1 : Kd.C (Kd.int .i64) w A1 l1.length l1) (hc1 : l1.length ≤ c1) (hr4 : Kd.C (Kd.int .i64) w A4 l4.length l4) (hc4 : l4.length ≤ c4) (h : s20_is.f k a0 l1 a2 a3 l4 = some r) :
  Calls Try.prog 59 #[.int .i64 a0, .slice A1 l1.length c1, .int .i64 a2, .int .i64 a3, .slice A4 l4.length c4] w fun e w' => e = .returned (.bool r) ∧ Below w.heap.size w w' := by
 have HR1 := Aside0.mk hr1
 have HC1 := Aside0.mk hc1
 clear hr1 hc1
 have HR4 := Aside0.mk hr4
 have HC4 := Aside0.mk hc4
 clear hr4 hc4
 have HB := Aside0.mk (Below.refl w.heap.size w)
 have H : ((s20_abc.f k).bind fun bt407 => ((lines_Of.f bt407.1 bt407.2 a0 l1).bind fun bt413 => (if bt413.2 = 0 then (if (bt413.1.length : Int) = (l1.length : Int) then (if 0 < (bt413.1.length : Int) then (if ((rd_T55 bt413.1 0).f1) = a2 then (if ((rd_T55 bt413.1 0).f2) = a3 then (s20_is.j0 k l4 bt413.1 ((((rd_T55 bt413.1 0).f0).length : Int) != (l4.length : Int))) else (s20_is.j0 k l4 bt413.1 true)) else (s20_is.j0 k l4 bt413.1 true)) else (none)) else (s20_is.j0 k l4 bt413.1 true)) else (s20_is.j0 k l4 bt413.1 true)))) = some r := h
 clear h
 replace H := Option.bind_eq_some_iff.mp H
 obtain ⟨⟨t407, t408⟩, A60, H⟩ := H
 replace H : ((lines_Of.f t407 t408 a0 l1).bind fun bt413 => (if bt413.2 = 0 then (if (bt413.1.length : Int) = (l1.length : Int) then (if 0 < (bt413.1.length : Int) then (if ((rd_T55 bt413.1 0).f1) = a2 then (if ((rd_T55 bt413.1 0).f2) = a3 then (s20_is.j0 k l4 bt413.1 ((((rd_T55 bt413.1 0).f0).length : Int) != (l4.length : Int))) else (s20_is.j0 k l4 bt413.1 true)) else (s20_is.j0 k l4 bt413.1 true)) else (none)) else (s20_is.j0 k l4 bt413.1 true)) else (s20_is.j0 k l4 bt413.1 true))) = some r := H
 have A6 := Aside0.mk A60
 clear A60
 replace H := Option.bind_eq_some_iff.mp H
 obtain ⟨⟨t413, t414⟩, A70, H⟩ := H
 replace H : (if t414 = 0 then (if (t413.length : Int) = (l1.length : Int) then (if 0 < (t413.length : Int) then (if ((rd_T55 t413 0).f1) = a2 then (if ((rd_T55 t413 0).f2) = a3 then (s20_is.j0 k l4 t413 ((((rd_T55 t413 0).f0).length : Int) != (l4.length : Int))) else (s20_is.j0 k l4 t413 true)) else (s20_is.j0 k l4 t413 true)) else (none)) else (s20_is.j0 k l4 t413 true)) else (s20_is.j0 k l4 t413 true)) = some r := H
 have A7 := Aside0.mk A70
 clear A70
 have HC8 := Aside0.mk H
 clear H
 go_enter Try.func59, Try.ntmps59
 go_upto_region 3 with (first | (go_at_call 79; (with_reducible refine (s20_abc.calls k  t407 t408 _ A6.out).mono ?_); rintro e w9 ⟨v409, v411, rfl, ho0, ho1, hb⟩; have n0_ := Aside0.mk (Kd.R_lower ho0 (below_size (by repeat (first | (with_reducible first | exact HB.out | apply below_alloc | apply pw_below_drewN | apply below_drew1) | exact HB.out)))); have n1_ := Aside0.mk (Kd.R_lower ho1 (below_size (by repeat (first | (with_reducible first | exact HB.out | apply below_alloc | apply pw_below_drewN | apply below_drew1) | exact HB.out)))); have n2_ := Aside0.mk (below_step (by repeat (first | (with_reducible first | exact HB.out | apply below_alloc | apply pw_below_drewN | apply below_drew1) | exact HB.out)) hb); clear HB; have HO410 := n0_; have HO412 := n1_; have HB := n2_; clear n0_ n1_ n2_; (try clear hb); (try clear hb2); (try clear hk); (try clear hi); (try clear ho0); (try clear ho1); obtain ⟨Ao10, co10, eo10⟩ := Kd.R_slice HO410.out; subst eo10; obtain ⟨Ao11, co11, eo11⟩ := Kd.R_slice HO412.out; subst eo11) | (go_at_call 26; (with_reducible refine (lines_Of.calls _ _ t407 _ _ t408 a0 _ _ l1 t413 t414 _ ?side1 ?side2 ?side3 ?side4 ?side5 ?side6 A7.out).mono ?_); (case side1 => repeat (first | exact (Kd.R_reads' HO410.out).2.2 | (with_reducible refine Kd.C_alloc ?_ _) | (with_reducible refine Kd.C_drewN ?_ _) | (with_reducible refine Kd.C_drew ?_))); (case side2 => exact (Kd.R_reads' HO410.out).2.1); (case side3 => repeat (first | exact (Kd.R_reads' HO412.out).2.2 | (with_reducible refine Kd.C_alloc ?_ _) | (with_reducible refine Kd.C_drewN ?_ _) | (with_reducible refine Kd.C_drew ?_))); (case side4 => exact (Kd.R_reads' HO412.out).2.1); (case side5 => repeat (first | exact (Kd.C_below HR1.out HB.out) | (with_reducible refine Kd.C_alloc ?_ _) | (with_reducible refine Kd.C_drewN ?_ _) | (with_reducible refine Kd.C_drew ?_))); (case side6 => exact HC1.out); rintro e w12 ⟨v415, rfl, ho0, hb⟩; have n0_ := Aside0.mk (Kd.R_below (by (with_reducible repeat (first | apply Kd.R_alloc | apply Kd.R_drewN | apply Kd.R_drew)); exact HO410.out) hb); have n1_ := Aside0.mk (Kd.R_below (by (with_reducible repeat (first | apply Kd.R_alloc | apply Kd.R_drewN | apply Kd.R_drew)); exact HO412.out) hb); have n2_ := Aside0.mk (Kd.S_lower ho0 (below_size (by repeat (first | (with_reducible first | exact HB.out | apply below_alloc | apply pw_below_drewN | apply below_drew1) | exact HB.out)))); have n3_ := Aside0.mk (below_step (by repeat (first | (with_reducible first | exact HB.out | apply below_alloc | apply pw_below_drewN | apply below_drew1) | exact HB.out)) hb); clear HO410; clear HO412; clear HB; have HO410 := n0_; have HO412 := n1_; have HO416 := n2_; have HB := n3_; clear n0_ n1_ n2_ n3_; (try clear hb); (try clear hb2); (try clear hk); (try clear hi); (try clear ho0)))
 repeat (go_quiet (first | (go_at_call 79; (with_reducible refine (s20_abc.calls k  t407 t408 _ A6.out).mono ?_); rintro e w9 ⟨v409, v411, rfl, ho0, ho1, hb⟩; have n0_ := Aside0.mk (Kd.R_lower ho0 (below_size (by repeat (first | (with_reducible first | exact HB.out | apply below_alloc | apply pw_below_drewN | apply below_drew1) | exact HB.out)))); have n1_ := Aside0.mk (Kd.R_lower ho1 (below_size (by repeat (first | (with_reducible first | exact HB.out | apply below_alloc | apply pw_below_drewN | apply below_drew1) | exact HB.out)))); have n2_ := Aside0.mk (below_step (by repeat (first | (with_reducible first | exact HB.out | apply below_alloc | apply pw_below_drewN | apply below_drew1) | exact HB.out)) hb); clear HB; have HO410 := n0_; have HO412 := n1_; have HB := n2_; clear n0_ n1_ n2_; (try clear hb); (try clear hb2); (try clear hk); (try clear hi); (try clear ho0); (try clear ho1); obtain ⟨Ao10, co10, eo10⟩ := Kd.R_slice HO410.out; subst eo10; obtain ⟨Ao11, co11, eo11⟩ := Kd.R_slice HO412.out; subst eo11) | (go_at_call 26; (with_reducible refine (lines_Of.calls _ _ t407 _ _ t408 a0 _ _ l1 t413 t414 _ ?side1 ?side2 ?side3 ?side4 ?side5 ?side6 A7.out).mono ?_); (case side1 => repeat (first | exact (Kd.R_reads' HO410.out).2.2 | (with_reducible refine Kd.C_alloc ?_ _) | (with_reducible refine Kd.C_drewN ?_ _) | (with_reducible refine Kd.C_drew ?_))); (case side2 => exact (Kd.R_reads' HO410.out).2.1); (case side3 => repeat (first | exact (Kd.R_reads' HO412.out).2.2 | (with_reducible refine Kd.C_alloc ?_ _) | (with_reducible refine Kd.C_drewN ?_ _) | (with_reducible refine Kd.C_drew ?_))); (case side4 => exact (Kd.R_reads' HO412.out).2.1); (case side5 => repeat (first | exact (Kd.C_below HR1.out HB.out) | (with_reducible refine Kd.C_alloc ?_ _) | (with_reducible refine Kd.C_drewN ?_ _) | (with_reducible refine Kd.C_drew ?_))); (case side6 => exact HC1.out); rintro e w12 ⟨v415, rfl, ho0, hb⟩; have n0_ := Aside0.mk (Kd.R_below (by (with_reducible repeat (first | apply Kd.R_alloc | apply Kd.R_drewN | apply Kd.R_drew)); exact HO410.out) hb); have n1_ := Aside0.mk (Kd.R_below (by (with_reducible repeat (first | apply Kd.R_alloc | apply Kd.R_drewN | apply Kd.R_drew)); exact HO412.out) hb); have n2_ := Aside0.mk (Kd.S_lower ho0 (below_size (by repeat (first | (with_reducible first | exact HB.out | apply below_alloc | apply pw_below_drewN | apply below_drew1) | exact HB.out)))); have n3_ := Aside0.mk (below_step (by repeat (first | (with_reducible first | exact HB.out | apply below_alloc | apply pw_below_drewN | apply below_drew1) | exact HB.out)) hb); clear HO410; clear HO412; clear HB; have HO410 := n0_; have HO412 := n1_; have HO416 := n2_; have HB := n3_; clear n0_ n1_ n2_ n3_; (try clear hb); (try clear hb2); (try clear hk); (try clear hi); (try clear ho0))); go_upto_region 3 with (first | (go_at_call 79; (with_reducible refine (s20_abc.calls k  t407 t408 _ A6.out).mono ?_); rintro e w9 ⟨v409, v411, rfl, ho0, ho1, hb⟩; have n0_ := Aside0.mk (Kd.R_lower ho0 (below_size (by repeat (first | (with_reducible first | exact HB.out | apply below_alloc | apply pw_below_drewN | apply below_drew1) | exact HB.out)))); have n1_ := Aside0.mk (Kd.R_lower ho1 (below_size (by repeat (first | (with_reducible first | exact HB.out | apply below_alloc | apply pw_below_drewN | apply below_drew1) | exact HB.out)))); have n2_ := Aside0.mk (below_step (by repeat (first | (with_reducible first | exact HB.out | apply below_alloc | apply pw_below_drewN | apply below_drew1) | exact HB.out)) hb); clear HB; have HO410 := n0_; have HO412 := n1_; have HB := n2_; clear n0_ n1_ n2_; (try clear hb); (try clear hb2); (try clear hk); (try clear hi); (try clear ho0); (try clear ho1); obtain ⟨Ao10, co10, eo10⟩ := Kd.R_slice HO410.out; subst eo10; obtain ⟨Ao11, co11, eo11⟩ := Kd.R_slice HO412.out; subst eo11) | (go_at_call 26; (with_reducible refine (lines_Of.calls _ _ t407 _ _ t408 a0 _ _ l1 t413 t414 _ ?side1 ?side2 ?side3 ?side4 ?side5 ?side6 A7.out).mono ?_); (case side1 => repeat (first | exact (Kd.R_reads' HO410.out).2.2 | (with_reducible refine Kd.C_alloc ?_ _) | (with_reducible refine Kd.C_drewN ?_ _) | (with_reducible refine Kd.C_drew ?_))); (case side2 => exact (Kd.R_reads' HO410.out).2.1); (case side3 => repeat (first | exact (Kd.R_reads' HO412.out).2.2 | (with_reducible refine Kd.C_alloc ?_ _) | (with_reducible refine Kd.C_drewN ?_ _) | (with_reducible refine Kd.C_drew ?_))); (case side4 => exact (Kd.R_reads' HO412.out).2.1); (case side5 => repeat (first | exact (Kd.C_below HR1.out HB.out) | (with_reducible refine Kd.C_alloc ?_ _) | (with_reducible refine Kd.C_drewN ?_ _) | (with_reducible refine Kd.C_drew ?_))); (case side6 => exact HC1.out); rintro e w12 ⟨v415, rfl, ho0, hb⟩; have n0_ := Aside0.mk (Kd.R_below (by (with_reducible repeat (first | apply Kd.R_alloc | apply Kd.R_drewN | apply Kd.R_drew)); exact HO410.out) hb); have n1_ := Aside0.mk (Kd.R_below (by (with_reducible repeat (first | apply Kd.R_alloc | apply Kd.R_drewN | apply Kd.R_drew)); exact HO412.out) hb); have n2_ := Aside0.mk (Kd.S_lower ho0 (below_size (by repeat (first | (with_reducible first | exact HB.out | apply below_alloc | apply pw_below_drewN | apply below_drew1) | exact HB.out)))); have n3_ := Aside0.mk (below_step (by repeat (first | (with_reducible first | exact HB.out | apply below_alloc | apply pw_below_drewN | apply below_drew1) | exact HB.out)) hb); clear HO410; clear HO412; clear HB; have HO410 := n0_; have HO412 := n1_; have HO416 := n2_; have HB := n3_; clear n0_ n1_ n2_ n3_; (try clear hb); (try clear hb2); (try clear hk); (try clear hi); (try clear ho0))))
 (try simp only [Act.put, List.setIfInBounds_toArray, List.set_cons_zero, List.set_cons_succ])
 go_cut [62] (fun v62 wc => ∃ (kq : Nat) (x62_7 : Bool), v62 = .bool x62_7 ∧ Aside0 (s20_is.j0 kq l4 t413 x62_7 = some r) ∧ Aside0 (kq ≤ k) ∧ Aside0 (Kd.S k55 55 wc w.heap.size (fun _ => True) v415 t413) ∧ Aside0 (Below w.heap.size w wc))
 case first =>
  have H := HC8.out
  clear HC8
  by_cases c13 : t414 = 0
  ·rw [if_pos c13] at H
   have c13b0 : (t414 == 0) = true := beq_iff_eq.mpr c13
   have c13b1 : (t414 != 0) = false := bne_eq_false_iff_eq.mpr c13
   clear c13
   (first | rw [c13b0] | (simp only [i64_w, i32_w]; rw [c13b0]) | skip)
   by_cases c14 : (t413.length : Int) = (l1.length : Int)
   ·rw [if_pos c14] at H
    have c14b0 : ((t413.length : Int) == (l1.length : Int)) = true := beq_iff_eq.mpr c14
    have c14b1 : ((t413.length : Int) != (l1.length : Int)) = false := bne_eq_false_iff_eq.mpr c14
    have c14b2 : (t413.length == l1.length) = true := by first | simpa using c14 | (simp at c14 ⊢; omega)
    clear c14
    by_cases c15 : 0 < (t413.length : Int)
    ·rw [if_pos c15] at H
     have c15b0 : decide (0 < (t413.length : Int)) = true := decide_eq_true c15
     have c15b1 : decide (0 < t413.length) = true := decide_eq_true (by omega)
     clear c15
     by_cases c16 : ((rd_T55 t413 0).f1) = a2
     ·rw [if_pos c16] at H
      have c16b0 : (((rd_T55 t413 0).f1) == a2) = true := beq_iff_eq.mpr c16
      have c16b1 : (((rd_T55 t413 0).f1) != a2) = false := bne_eq_false_iff_eq.mpr c16
      clear c16
      by_cases c17 : ((rd_T55 t413 0).f2) = a3
      ·rw [if_pos c17] at H
       have c17b0 : (((rd_T55 t413 0).f2) == a3) = true := beq_iff_eq.mpr c17
       have c17b1 : (((rd_T55 t413 0).f2) != a3) = false := bne_eq_false_iff_eq.mpr c17
       clear c17
       have H' := Aside0.mk H
       clear H
       obtain ⟨Ao18, co18, eo18⟩ := Kd.S_slice HO416.out
       subst eo18
       have p417 : 0 ≤ (0 : Int) := (by omega)
       have q417 : 0 < (t413.length : Int) := of_decide_eq_true (by first | (with_reducible assumption) | assumption)
       obtain ⟨ad417, A417_0, c417_0, e417, hx417_0, hx417_1, hx417_2, hl417_0, hi417_0⟩ := at_T55 (Kd.S_reads' HO416.out).2.2 0 p417 q417
       cases e417
       obtain ⟨ce417, hce417, hMe417, hcc417⟩ := Kd.S_get HO416.out z55 0 p417 (by first | exact q417 | exact of_decide_eq_true (by first | (with_reducible assumption) | assumption) | (have e_ := (Kd.S_reads' HO416.out).1; omega))
       obtain ⟨ve417_0, rfl, ge417_0⟩ := k55_openM hMe417
       have hv417_0 := hcc417 0 _ rfl
       rw [Nat.add_zero] at hv417_0
       replace hv417_0 := Option.some.inj (hv417_0.symm.trans hx417_0)
       rw [hv417_0] at ge417_0
       have HL417_0 := Aside0.mk (show Kd.R k57 57 _ _ _ _ ((rd_T55 t413 0).f0) from ge417_0)
       clear hv417_0 ge417_0 hcc417 hce417
       have qi417 : (0 < t413.length) = True := eq_true (by omega)
       (try rw [show ((0 : Int)).toNat = 0 from rfl] at hx417_0)
       (try rw [show 0 * 3 = 0 from rfl] at hx417_0)
       (try rw [Addr.add_zero'] at hx417_0)
       (try rw [show ((0 : Int)).toNat = 0 from rfl] at hx417_1)
       (try rw [show 0 * 3 = 0 from rfl] at hx417_1)
       (try rw [Addr.add_zero'] at hx417_1)
       (try rw [show ((0 : Int)).toNat = 0 from rfl] at hx417_2)
       (try rw [show 0 * 3 = 0 from rfl] at hx417_2)
       (try rw [Addr.add_zero'] at hx417_2)
       have HR417_0 := Aside0.mk hi417_0
       have HC417_0 := Aside0.mk hl417_0
       clear hi417_0 hl417_0
       replace p417 := eq_true p417
       replace q417 := eq_true q417
       have p418 : 0 ≤ (0 : Int) := (by omega)
       have q418 : 0 < (t413.length : Int) := of_decide_eq_true (by first | (with_reducible assumption) | assumption)
       obtain ⟨ad418, A418_0, c418_0, e418, hx418_0, hx418_1, hx418_2, hl418_0, hi418_0⟩ := at_T55 (Kd.S_reads' HO416.out).2.2 0 p418 q418
       obtain rfl : ad417 = ad418 := (by injection e418)
       obtain ⟨ce418, hce418, hMe418, hcc418⟩ := Kd.S_get HO416.out z55 0 p418 (by first | exact q418 | exact of_decide_eq_true (by first | (with_reducible assumption) | assumption) | (have e_ := (Kd.S_reads' HO416.out).1; omega))
       obtain ⟨ve418_0, rfl, ge418_0⟩ := k55_openM hMe418
       have hv418_0 := hcc418 0 _ rfl
       rw [Nat.add_zero] at hv418_0
       replace hv418_0 := Option.some.inj (hv418_0.symm.trans hx418_0)
       rw [hv418_0] at ge418_0
       have HL418_0 := Aside0.mk (show Kd.R k57 57 _ _ _ _ ((rd_T55 t413 0).f0) from ge418_0)
       clear hv418_0 ge418_0 hcc418 hce418
       have qi418 : (0 < t413.length) = True := eq_true (by omega)
       (try rw [show ((0 : Int)).toNat = 0 from rfl] at hx418_0)
       (try rw [show 0 * 3 = 0 from rfl] at hx418_0)
       (try rw [Addr.add_zero'] at hx418_0)
       (try rw [show ((0 : Int)).toNat = 0 from rfl] at hx418_1)
       (try rw [show 0 * 3 = 0 from rfl] at hx418_1)
       (try rw [Addr.add_zero'] at hx418_1)
       (try rw [show ((0 : Int)).toNat = 0 from rfl] at hx418_2)
       (try rw [show 0 * 3 = 0 from rfl] at hx418_2)
       (try rw [Addr.add_zero'] at hx418_2)
       have HR418_0 := Aside0.mk hi418_0
       have HC418_0 := Aside0.mk hl418_0
       clear hi418_0 hl418_0
       replace p418 := eq_true p418
       replace q418 := eq_true q418
       have ea_ := Option.some.inj (hx417_0.symm.trans hx418_0)
       injection ea_ with ea_ en_ ec_
       subst ea_
       subst ec_
       clear en_
       have p419 : 0 ≤ (0 : Int) := (by omega)
       have q419 : 0 < (t413.length : Int) := of_decide_eq_true (by first | (with_reducible assumption) | assumption)
       obtain ⟨ad419, A419_0, c419_0, e419, hx419_0, hx419_1, hx419_2, hl419_0, hi419_0⟩ := at_T55 (Kd.S_reads' HO416.out).2.2 0 p419 q419
       obtain rfl : ad417 = ad419 := (by injection e419)
       obtain ⟨ce419, hce419, hMe419, hcc419⟩ := Kd.S_get HO416.out z55 0 p419 (by first | exact q419 | exact of_decide_eq_true (by first | (with_reducible assumption) | assumption) | (have e_ := (Kd.S_reads' HO416.out).1; omega))
       obtain ⟨ve419_0, rfl, ge419_0⟩ := k55_openM hMe419
       have hv419_0 := hcc419 0 _ rfl
       rw [Nat.add_zero] at hv419_0
       replace hv419_0 := Option.some.inj (hv419_0.symm.trans hx419_0)
       rw [hv419_0] at ge419_0
       have HL419_0 := Aside0.mk (show Kd.R k57 57 _ _ _ _ ((rd_T55 t413 0).f0) from ge419_0)
       clear hv419_0 ge419_0 hcc419 hce419
       have qi419 : (0 < t413.length) = True := eq_true (by omega)
       (try rw [show ((0 : Int)).toNat = 0 from rfl] at hx419_0)
       (try rw [show 0 * 3 = 0 from rfl] at hx419_0)
       (try rw [Addr.add_zero'] at hx419_0)
       (try rw [show ((0 : Int)).toNat = 0 from rfl] at hx419_1)
       (try rw [show 0 * 3 = 0 from rfl] at hx419_1)
       (try rw [Addr.add_zero'] at hx419_1)
       (try rw [show ((0 : Int)).toNat = 0 from rfl] at hx419_2)
       (try rw [show 0 * 3 = 0 from rfl] at hx419_2)
       (try rw [Addr.add_zero'] at hx419_2)
       have HR419_0 := Aside0.mk hi419_0
       have HC419_0 := Aside0.mk hl419_0
       clear hi419_0 hl419_0
       replace p419 := eq_true p419
       replace q419 := eq_true q419
       have ea_ := Option.some.inj (hx417_0.symm.trans hx419_0)
       injection ea_ with ea_ en_ ec_
       subst ea_
       subst ec_
       clear en_
       go_wp2
       repeat (go_quiet (fail); try go_wp2)
       go_meet
       case rel => exact ⟨_, (((((rd_T55 t413 0).f0).length : Int) != (l4.length : Int))), (by first | rfl | (simp; done) | (simp [*]; done)), H', ⟨by first | omega | exact Nat.le_refl _⟩, ⟨by (with_reducible repeat (first | apply Kd.S_alloc | apply Kd.S_drewN | apply Kd.S_drew)); exact HO416.out⟩, ⟨by repeat (first | (with_reducible first | exact HB.out | apply below_alloc | apply pw_below_drewN | apply below_drew1) | exact HB.out)⟩⟩
      ·rw [if_neg c17] at H
       have c17b0 : (((rd_T55 t413 0).f2) == a3) = false := beq_eq_false_iff_ne.mpr c17
       have c17b1 : (((rd_T55 t413 0).f2) != a3) = true := bne_iff_ne.mpr c17
       have H' := Aside0.mk H
       clear H
       obtain ⟨Ao19, co19, eo19⟩ := Kd.S_slice HO416.out
       subst eo19
       have p417 : 0 ≤ (0 : Int) := (by omega)
       have q417 : 0 < (t413.length : Int) := of_decide_eq_true (by first | (with_reducible assumption) | assumption)
       obtain ⟨ad417, A417_0, c417_0, e417, hx417_0, hx417_1, hx417_2, hl417_0, hi417_0⟩ := at_T55 (Kd.S_reads' HO416.out).2.2 0 p417 q417
       cases e417
       obtain ⟨ce417, hce417, hMe417, hcc417⟩ := Kd.S_get HO416.out z55 0 p417 (by first | exact q417 | exact of_decide_eq_true (by first | (with_reducible assumption) | assumption) | (have e_ := (Kd.S_reads' HO416.out).1; omega))
       obtain ⟨ve417_0, rfl, ge417_0⟩ := k55_openM hMe417
       have hv417_0 := hcc417 0 _ rfl
       rw [Nat.add_zero] at hv417_0
       replace hv417_0 := Option.some.inj (hv417_0.symm.trans hx417_0)
       rw [hv417_0] at ge417_0
       have HL417_0 := Aside0.mk (show Kd.R k57 57 _ _ _ _ ((rd_T55 t413 0).f0) from ge417_0)
       clear hv417_0 ge417_0 hcc417 hce417
       have qi417 : (0 < t413.length) = True := eq_true (by omega)
       (try rw [show ((0 : Int)).toNat = 0 from rfl] at hx417_0)
       (try rw [show 0 * 3 = 0 from rfl] at hx417_0)
       (try rw [Addr.add_zero'] at hx417_0)
       (try rw [show ((0 : Int)).toNat = 0 from rfl] at hx417_1)
       (try rw [show 0 * 3 = 0 from rfl] at hx417_1)
       (try rw [Addr.add_zero'] at hx417_1)
       (try rw [show ((0 : Int)).toNat = 0 from rfl] at hx417_2)
       (try rw [show 0 * 3 = 0 from rfl] at hx417_2)
       (try rw [Addr.add_zero'] at hx417_2)
       have HR417_0 := Aside0.mk hi417_0
       have HC417_0 := Aside0.mk hl417_0
       clear hi417_0 hl417_0
       replace p417 := eq_true p417
       replace q417 := eq_true q417
       have p418 : 0 ≤ (0 : Int) := (by omega)
       have q418 : 0 < (t413.length : Int) := of_decide_eq_true (by first | (with_reducible assumption) | assumption)
       obtain ⟨ad418, A418_0, c418_0, e418, hx418_0, hx418_1, hx418_2, hl418_0, hi418_0⟩ := at_T55 (Kd.S_reads' HO416.out).2.2 0 p418 q418
       obtain rfl : ad417 = ad418 := (by injection e418)
       obtain ⟨ce418, hce418, hMe418, hcc418⟩ := Kd.S_get HO416.out z55 0 p418 (by first | exact q418 | exact of_decide_eq_true (by first | (with_reducible assumption) | assumption) | (have e_ := (Kd.S_reads' HO416.out).1; omega))
       obtain ⟨ve418_0, rfl, ge418_0⟩ := k55_openM hMe418
       have hv418_0 := hcc418 0 _ rfl
       rw [Nat.add_zero] at hv418_0
       replace hv418_0 := Option.some.inj (hv418_0.symm.trans hx418_0)
       rw [hv418_0] at ge418_0
       have HL418_0 := Aside0.mk (show Kd.R k57 57 _ _ _ _ ((rd_T55 t413 0).f0) from ge418_0)
       clear hv418_0 ge418_0 hcc418 hce418
       have qi418 : (0 < t413.length) = True := eq_true (by omega)
       (try rw [show ((0 : Int)).toNat = 0 from rfl] at hx418_0)
       (try rw [show 0 * 3 = 0 from rfl] at hx418_0)
       (try rw [Addr.add_zero'] at hx418_0)
       (try rw [show ((0 : Int)).toNat = 0 from rfl] at hx418_1)
       (try rw [show 0 * 3 = 0 from rfl] at hx418_1)
       (try rw [Addr.add_zero'] at hx418_1)
       (try rw [show ((0 : Int)).toNat = 0 from rfl] at hx418_2)
       (try rw [show 0 * 3 = 0 from rfl] at hx418_2)
       (try rw [Addr.add_zero'] at hx418_2)
       have HR418_0 := Aside0.mk hi418_0
       have HC418_0 := Aside0.mk hl418_0
       clear hi418_0 hl418_0
       replace p418 := eq_true p418
       replace q418 := eq_true q418
       have ea_ := Option.some.inj (hx417_0.symm.trans hx418_0)
       injection ea_ with ea_ en_ ec_
       subst ea_
       subst ec_
       clear en_
       go_wp2
       repeat (go_quiet (fail); try go_wp2)
       go_meet
       case rel => exact ⟨_, (true), (by first | rfl | (simp; done) | (simp [*]; done)), H', ⟨by first | omega | exact Nat.le_refl _⟩, ⟨by (with_reducible repeat (first | apply Kd.S_alloc | apply Kd.S_drewN | apply Kd.S_drew)); exact HO416.out⟩, ⟨by repeat (first | (with_reducible first | exact HB.out | apply below_alloc | apply pw_below_drewN | apply below_drew1) | exact HB.out)⟩⟩
     ·rw [if_neg c16] at H
      have c16b0 : (((rd_T55 t413 0).f1) == a2) = false := beq_eq_false_iff_ne.mpr c16
      have c16b1 : (((rd_T55 t413 0).f1) != a2) = true := bne_iff_ne.mpr c16
      have H' := Aside0.mk H
      clear H
      obtain ⟨Ao20, co20, eo20⟩ := Kd.S_slice HO416.out
      subst eo20
      have p417 : 0 ≤ (0 : Int) := (by omega)
      have q417 : 0 < (t413.length : Int) := of_decide_eq_true (by first | (with_reducible assumption) | assumption)
      obtain ⟨ad417, A417_0, c417_0, e417, hx417_0, hx417_1, hx417_2, hl417_0, hi417_0⟩ := at_T55 (Kd.S_reads' HO416.out).2.2 0 p417 q417
      cases e417
      obtain ⟨ce417, hce417, hMe417, hcc417⟩ := Kd.S_get HO416.out z55 0 p417 (by first | exact q417 | exact of_decide_eq_true (by first | (with_reducible assumption) | assumption) | (have e_ := (Kd.S_reads' HO416.out).1; omega))
      obtain ⟨ve417_0, rfl, ge417_0⟩ := k55_openM hMe417
      have hv417_0 := hcc417 0 _ rfl
      rw [Nat.add_zero] at hv417_0
      replace hv417_0 := Option.some.inj (hv417_0.symm.trans hx417_0)
      rw [hv417_0] at ge417_0
      have HL417_0 := Aside0.mk (show Kd.R k57 57 _ _ _ _ ((rd_T55 t413 0).f0) from ge417_0)
      clear hv417_0 ge417_0 hcc417 hce417
      have qi417 : (0 < t413.length) = True := eq_true (by omega)
      (try rw [show ((0 : Int)).toNat = 0 from rfl] at hx417_0)
      (try rw [show 0 * 3 = 0 from rfl] at hx417_0)
      (try rw [Addr.add_zero'] at hx417_0)
      (try rw [show ((0 : Int)).toNat = 0 from rfl] at hx417_1)
      (try rw [show 0 * 3 = 0 from rfl] at hx417_1)
      (try rw [Addr.add_zero'] at hx417_1)
      (try rw [show ((0 : Int)).toNat = 0 from rfl] at hx417_2)
      (try rw [show 0 * 3 = 0 from rfl] at hx417_2)
      (try rw [Addr.add_zero'] at hx417_2)
      have HR417_0 := Aside0.mk hi417_0
      have HC417_0 := Aside0.mk hl417_0
      clear hi417_0 hl417_0
      replace p417 := eq_true p417
      replace q417 := eq_true q417
      go_wp2
      repeat (go_quiet (fail); try go_wp2)
      go_meet
      case rel => exact ⟨_, (true), (by first | rfl | (simp; done) | (simp [*]; done)), H', ⟨by first | omega | exact Nat.le_refl _⟩, ⟨by (with_reducible repeat (first | apply Kd.S_alloc | apply Kd.S_drewN | apply Kd.S_drew)); exact HO416.out⟩, ⟨by repeat (first | (with_reducible first | exact HB.out | apply below_alloc | apply pw_below_drewN | apply below_drew1) | exact HB.out)⟩⟩
    ·rw [if_neg c15] at H
     exact absurd H (by simp)
   ·rw [if_neg c14] at H
    have c14b0 : ((t413.length : Int) == (l1.length : Int)) = false := beq_eq_false_iff_ne.mpr c14
    have c14b1 : ((t413.length : Int) != (l1.length : Int)) = true := bne_iff_ne.mpr c14
    have c14b2 : (t413.length == l1.length) = false := by first | simpa using c14 | (simp at c14 ⊢; omega)
    have H' := Aside0.mk H
    clear H
    obtain ⟨Ao21, co21, eo21⟩ := Kd.S_slice HO416.out
    subst eo21
    go_wp2
    repeat (go_quiet (fail); try go_wp2)
    go_meet
    case rel => exact ⟨_, (true), (by first | rfl | (simp; done) | (simp [*]; done)), H', ⟨by first | omega | exact Nat.le_refl _⟩, ⟨by (with_reducible repeat (first | apply Kd.S_alloc | apply Kd.S_drewN | apply Kd.S_drew)); exact HO416.out⟩, ⟨by repeat (first | (with_reducible first | exact HB.out | apply below_alloc | apply pw_below_drewN | apply below_drew1) | exact HB.out)⟩⟩
  ·rw [if_neg c13] at H
   have c13b0 : (t414 == 0) = false := beq_eq_false_iff_ne.mpr c13
   have c13b1 : (t414 != 0) = true := bne_iff_ne.mpr c13
   (first | rw [c13b0] | (simp only [i64_w, i32_w]; rw [c13b0]) | skip)
   have H' := Aside0.mk H
   clear H
   go_wp2
   repeat (go_quiet (fail); try go_wp2)
   go_meet
   case rel => exact ⟨_, (true), (by first | rfl | (simp; done) | (simp [*]; done)), H', ⟨by first | omega | exact Nat.le_refl _⟩, ⟨by (with_reducible repeat (first | apply Kd.S_alloc | apply Kd.S_drewN | apply Kd.S_drew)); exact HO416.out⟩, ⟨by repeat (first | (with_reducible first | exact HB.out | apply below_alloc | apply pw_below_drewN | apply below_drew1) | exact HB.out)⟩⟩
 case rest =>
  clear HC8
  try clear c1
  try clear p2
  try clear c4
  try clear p4
  try clear q4
  try clear hx4
  try clear qi4
  try clear c5
  try clear c13
  try clear c13b0
  try clear c13b1
  try clear c14
  try clear c14b0
  try clear c14b1
  try clear c14b2
  try clear c15
  try clear c15b0
  try clear c15b1
  try clear c16
  try clear c16b0
  try clear c16b1
  try clear c17
  try clear c17b0
  try clear c17b1
  try clear hx417_0
  try clear hx417_1
  try clear hx417_2
  try clear hx418_0
  try clear hx418_1
  try clear hx418_2
  try clear hx419_0
  try clear hx419_1
  try clear hx419_2
  try clear p417
  try clear p418
  try clear p419
  try clear q417
  try clear q418
  try clear q419
  obtain ⟨kq, x62_7, rfl, HA, HJ7, HO_13, HB⟩ := hcut
  cases kq with
  | zero => exact absurd HA.out (by simp [s20_is.j0])
  | succ kj7 =>
   have H := HA.out
   clear HA
   simp only [s20_is.j0] at H
   by_cases c22 : x62_7 = true
   ·subst c22
    have H1 : (some false) = some r := by rw [if_pos rfl] at H; exact H
    clear H
    have H := H1
    clear H1
    obtain rfl := Option.some.inj H
    go_wp2
    repeat (go_quiet (fail); try go_wp2)
    go_ret
    exact ⟨by first | rfl | (simp [errW_none, errW_some] <;> rfl) | (simp [*, errW_none, errW_some] <;> rfl), by repeat (first | (with_reducible first | exact HB.out | apply below_alloc | apply pw_below_drewN | apply below_drew1) | exact HB.out)⟩
   ·replace c22 := Bool.eq_false_iff.mpr c22
    subst c22
    have H1 : (s20_is.l0 kj7 l4 t413 0) = some r := by rw [if_neg (show ¬ (false = true) by decide)] at H; exact H
    clear H
    have H := H1
    clear H1
    have H' := Aside0.mk H
    clear H
    go_wp2
    repeat (go_quiet (fail); try go_wp2)
    go_loopg [15] kj7 (fun kq v15 w' => ∃ (x15_2 : Int), v15 = .int .i64 x15_2 ∧ Aside0 (s20_is.l0 kq l4 t413 x15_2 = some r) ∧ Aside0 (kq ≤ kj7) ∧ Aside0 (Kd.S k55 55 w' w.heap.size (fun _ => True) v415 t413) ∧ Aside0 (Below w.heap.size w w'))
    case atStart => exact ⟨(0), (by first | rfl | (simp; done) | (simp [*]; done)), H', ⟨Nat.le_refl _⟩, ⟨by (with_reducible repeat (first | apply Kd.S_alloc | apply Kd.S_drewN | apply Kd.S_drew)); exact HO_13.out⟩, ⟨by repeat (first | (with_reducible first | exact HB.out | apply below_alloc | apply pw_below_drewN | apply below_drew1) | exact HB.out)⟩⟩
    case round =>
     clear H'
     try clear c1
     try clear c2
     try clear p2
     try clear c4
     try clear p4
     try clear q4
     try clear hx4
     try clear qi4
     try clear c5
     try clear c13
     try clear c13b0
     try clear c13b1
     try clear c14
     try clear c14b0
     try clear c14b1
     try clear c14b2
     try clear c15
     try clear c15b0
     try clear c15b1
     try clear c16
     try clear c16b0
     try clear c16b1
     try clear c17
     try clear c17b0
     try clear c17b1
     try clear c22
     try clear hx417_0
     try clear hx417_1
     try clear hx417_2
     try clear hx418_0
     try clear hx418_1
     try clear hx418_2
     try clear hx419_0
     try clear hx419_1
     try clear hx419_2
     try clear p2
     try clear p4
     try clear p417
     try clear p418
     try clear p419
     try clear q4
     try clear q417
     try clear q418
     try clear q419
     obtain ⟨x15_2, rfl, HA, HK2, HO_13, HB⟩ := hrel
     cases gk with
     | zero => exact absurd HA.out (by simp [s20_is.l0])
     | succ k2 =>
      have H := HA.out
      clear HA
      simp only [s20_is.l0] at H
      by_cases c23 : x15_2 < (l4.length : Int)
      ·rw [if_pos c23] at H
       have c23b0 : decide (x15_2 < (l4.length : Int)) = true := decide_eq_true c23
       clear c23
       by_cases c24 : 0 < (t413.length : Int)
       ·rw [if_pos c24] at H
        have c24b0 : decide (0 < (t413.length : Int)) = true := decide_eq_true c24
        have c24b1 : decide (0 < t413.length) = true := decide_eq_true (by omega)
        clear c24
        by_cases c25 : 0 ≤ x15_2
        ·rw [if_pos c25] at H
         have c25b0 : decide (0 ≤ x15_2) = true := decide_eq_true c25
         clear c25
         by_cases c26 : x15_2 < (((rd_T55 t413 0).f0).length : Int)
         ·rw [if_pos c26] at H
          have c26b0 : decide (x15_2 < (((rd_T55 t413 0).f0).length : Int)) = true := decide_eq_true c26
          clear c26
          by_cases c27 : ((rd_T57 ((rd_T55 t413 0).f0) x15_2).f0) = (rd l4 x15_2)
          ·rw [if_pos c27] at H
           have c27b0 : (((rd_T57 ((rd_T55 t413 0).f0) x15_2).f0) == (rd l4 x15_2)) = true := beq_iff_eq.mpr c27
           have c27b1 : (((rd_T57 ((rd_T55 t413 0).f0) x15_2).f0) != (rd l4 x15_2)) = false := bne_eq_false_iff_eq.mpr c27
           clear c27
           by_cases c28 : x15_2 < 5
           ·rw [if_pos c28] at H
            have c28b0 : decide (x15_2 < 5) = true := decide_eq_true c28
            clear c28
            by_cases c30 : ((rd_T57 ((rd_T55 t413 0).f0) x15_2).f1) = (bt (⟨#[97, 32, 98, 32, 99]⟩ : ByteArray) x15_2)
            ·rw [if_pos c30] at H
             have c30b0 : (((rd_T57 ((rd_T55 t413 0).f0) x15_2).f1) == (bt (⟨#[97, 32, 98, 32, 99]⟩ : ByteArray) x15_2)) = true := beq_iff_eq.mpr c30
             have c30b1 : (((rd_T57 ((rd_T55 t413 0).f0) x15_2).f1) != (bt (⟨#[97, 32, 98, 32, 99]⟩ : ByteArray) x15_2)) = false := bne_eq_false_iff_eq.mpr c30
             clear c30
             by_cases c31 : ((rd_T57 ((rd_T55 t413 0).f0) x15_2).f3) = x15_2
             ·rw [if_pos c31] at H
              have c31b0 : (((rd_T57 ((rd_T55 t413 0).f0) x15_2).f3) == x15_2) = true := beq_iff_eq.mpr c31
              have c31b1 : (((rd_T57 ((rd_T55 t413 0).f0) x15_2).f3) != x15_2) = false := bne_eq_false_iff_eq.mpr c31
              clear c31
              have H' := Aside0.mk H
              clear H
              obtain ⟨Ao32, co32, eo32⟩ := Kd.S_slice HO_13.out
              subst eo32
              have p420 : 0 ≤ (0 : Int) := (by omega)
              have q420 : 0 < (t413.length : Int) := of_decide_eq_true (by first | (with_reducible assumption) | assumption)
              obtain ⟨ad420, A420_0, c420_0, e420, hx420_0, hx420_1, hx420_2, hl420_0, hi420_0⟩ := at_T55 (Kd.S_reads' HO_13.out).2.2 0 p420 q420
              cases e420
              obtain ⟨ce420, hce420, hMe420, hcc420⟩ := Kd.S_get HO_13.out z55 0 p420 (by first | exact q420 | exact of_decide_eq_true (by first | (with_reducible assumption) | assumption) | (have e_ := (Kd.S_reads' HO_13.out).1; omega))
              obtain ⟨ve420_0, rfl, ge420_0⟩ := k55_openM hMe420
              have hv420_0 := hcc420 0 _ rfl
              rw [Nat.add_zero] at hv420_0
              replace hv420_0 := Option.some.inj (hv420_0.symm.trans hx420_0)
              rw [hv420_0] at ge420_0
              have HL420_0 := Aside0.mk (show Kd.R k57 57 _ _ _ _ ((rd_T55 t413 0).f0) from ge420_0)
              clear hv420_0 ge420_0 hcc420 hce420
              have qi420 : (0 < t413.length) = True := eq_true (by omega)
              (try rw [show ((0 : Int)).toNat = 0 from rfl] at hx420_0)
              (try rw [show 0 * 3 = 0 from rfl] at hx420_0)
              (try rw [Addr.add_zero'] at hx420_0)
              (try rw [show ((0 : Int)).toNat = 0 from rfl] at hx420_1)
              (try rw [show 0 * 3 = 0 from rfl] at hx420_1)
              (try rw [Addr.add_zero'] at hx420_1)
              (try rw [show ((0 : Int)).toNat = 0 from rfl] at hx420_2)
              (try rw [show 0 * 3 = 0 from rfl] at hx420_2)
              (try rw [Addr.add_zero'] at hx420_2)
              have HR420_0 := Aside0.mk hi420_0
              have HC420_0 := Aside0.mk hl420_0
              clear hi420_0 hl420_0
              replace p420 := eq_true p420
              replace q420 := eq_true q420
              have p421 : 0 ≤ (x15_2 : Int) := of_decide_eq_true (by first | (with_reducible assumption) | assumption)
              have q421 : x15_2 < (((rd_T55 t413 0).f0).length : Int) := of_decide_eq_true (by first | (with_reducible assumption) | assumption)
              obtain ⟨ad421, e421, hx421_0, hx421_1, hx421_2, hx421_3⟩ := at_T57 (by repeat (first | (with_reducible exact HR420_0.out) | (with_reducible refine Kd.C_alloc ?_ _) | (with_reducible refine Kd.C_drewN ?_ _) | (with_reducible refine Kd.C_drew ?_) | exact HR420_0.out)) x15_2 p421 q421
              cases e421
              replace p421 := eq_true p421
              replace q421 := eq_true q421
              have p422 : 0 ≤ (x15_2 : Int) := of_decide_eq_true (by first | (with_reducible assumption) | assumption)
              have q422 : x15_2 < (l4.length : Int) := of_decide_eq_true (by first | (with_reducible assumption) | assumption)
              obtain ⟨ad422, e422, hx422_0⟩ := Kd.at_int HR4.out x15_2 p422 q422
              cases e422
              replace hx422_0 := (HB.out.cell (World.block_lt_of_cell? w _ hx422_0)).trans hx422_0
              replace p422 := eq_true p422
              replace q422 := eq_true q422
              have p423 : 0 ≤ (0 : Int) := (by omega)
              have q423 : 0 < (t413.length : Int) := of_decide_eq_true (by first | (with_reducible assumption) | assumption)
              obtain ⟨ad423, A423_0, c423_0, e423, hx423_0, hx423_1, hx423_2, hl423_0, hi423_0⟩ := at_T55 (Kd.S_reads' HO_13.out).2.2 0 p423 q423
              obtain rfl : ad420 = ad423 := (by injection e423)
              obtain ⟨ce423, hce423, hMe423, hcc423⟩ := Kd.S_get HO_13.out z55 0 p423 (by first | exact q423 | exact of_decide_eq_true (by first | (with_reducible assumption) | assumption) | (have e_ := (Kd.S_reads' HO_13.out).1; omega))
              obtain ⟨ve423_0, rfl, ge423_0⟩ := k55_openM hMe423
              have hv423_0 := hcc423 0 _ rfl
              rw [Nat.add_zero] at hv423_0
              replace hv423_0 := Option.some.inj (hv423_0.symm.trans hx423_0)
              rw [hv423_0] at ge423_0
              have HL423_0 := Aside0.mk (show Kd.R k57 57 _ _ _ _ ((rd_T55 t413 0).f0) from ge423_0)
              clear hv423_0 ge423_0 hcc423 hce423
              have qi423 : (0 < t413.length) = True := eq_true (by omega)
              (try rw [show ((0 : Int)).toNat = 0 from rfl] at hx423_0)
              (try rw [show 0 * 3 = 0 from rfl] at hx423_0)
              (try rw [Addr.add_zero'] at hx423_0)
              (try rw [show ((0 : Int)).toNat = 0 from rfl] at hx423_1)
              (try rw [show 0 * 3 = 0 from rfl] at hx423_1)
              (try rw [Addr.add_zero'] at hx423_1)
              (try rw [show ((0 : Int)).toNat = 0 from rfl] at hx423_2)
              (try rw [show 0 * 3 = 0 from rfl] at hx423_2)
              (try rw [Addr.add_zero'] at hx423_2)
              have HR423_0 := Aside0.mk hi423_0
              have HC423_0 := Aside0.mk hl423_0
              clear hi423_0 hl423_0
              replace p423 := eq_true p423
              replace q423 := eq_true q423
              have ea_ := Option.some.inj (hx420_0.symm.trans hx423_0)
              injection ea_ with ea_ en_ ec_
              subst ea_
              subst ec_
              clear en_
              have p424 : 0 ≤ (x15_2 : Int) := of_decide_eq_true (by first | (with_reducible assumption) | assumption)
              have q424 : x15_2 < (((rd_T55 t413 0).f0).length : Int) := of_decide_eq_true (by first | (with_reducible assumption) | assumption)
              obtain ⟨ad424, e424, hx424_0, hx424_1, hx424_2, hx424_3⟩ := at_T57 (by repeat (first | (with_reducible exact HR423_0.out) | (with_reducible refine Kd.C_alloc ?_ _) | (with_reducible refine Kd.C_drewN ?_ _) | (with_reducible refine Kd.C_drew ?_) | exact HR423_0.out)) x15_2 p424 q424
              cases e424
              replace p424 := eq_true p424
              replace q424 := eq_true q424
              have p29 : 0 ≤ (x15_2 : Int) := of_decide_eq_true (by first | (with_reducible assumption) | assumption)
              have q29 : x15_2 < (5 : Int) := of_decide_eq_true (by first | (with_reducible assumption) | assumption)
              have hx29 := bt_at (⟨#[97, 32, 98, 32, 99]⟩ : ByteArray) x15_2
              replace p29 := eq_true p29
              replace q29 := eq_true q29
              have p425 : 0 ≤ (0 : Int) := (by omega)
              have q425 : 0 < (t413.length : Int) := of_decide_eq_true (by first | (with_reducible assumption) | assumption)
              obtain ⟨ad425, A425_0, c425_0, e425, hx425_0, hx425_1, hx425_2, hl425_0, hi425_0⟩ := at_T55 (Kd.S_reads' HO_13.out).2.2 0 p425 q425
              obtain rfl : ad420 = ad425 := (by injection e425)
              obtain ⟨ce425, hce425, hMe425, hcc425⟩ := Kd.S_get HO_13.out z55 0 p425 (by first | exact q425 | exact of_decide_eq_true (by first | (with_reducible assumption) | assumption) | (have e_ := (Kd.S_reads' HO_13.out).1; omega))
              obtain ⟨ve425_0, rfl, ge425_0⟩ := k55_openM hMe425
              have hv425_0 := hcc425 0 _ rfl
              rw [Nat.add_zero] at hv425_0
              replace hv425_0 := Option.some.inj (hv425_0.symm.trans hx425_0)
              rw [hv425_0] at ge425_0
              have HL425_0 := Aside0.mk (show Kd.R k57 57 _ _ _ _ ((rd_T55 t413 0).f0) from ge425_0)
              clear hv425_0 ge425_0 hcc425 hce425
              have qi425 : (0 < t413.length) = True := eq_true (by omega)
              (try rw [show ((0 : Int)).toNat = 0 from rfl] at hx425_0)
              (try rw [show 0 * 3 = 0 from rfl] at hx425_0)
              (try rw [Addr.add_zero'] at hx425_0)
              (try rw [show ((0 : Int)).toNat = 0 from rfl] at hx425_1)
              (try rw [show 0 * 3 = 0 from rfl] at hx425_1)
              (try rw [Addr.add_zero'] at hx425_1)
              (try rw [show ((0 : Int)).toNat = 0 from rfl] at hx425_2)
              (try rw [show 0 * 3 = 0 from rfl] at hx425_2)
              (try rw [Addr.add_zero'] at hx425_2)
              have HR425_0 := Aside0.mk hi425_0
              have HC425_0 := Aside0.mk hl425_0
              clear hi425_0 hl425_0
              replace p425 := eq_true p425
              replace q425 := eq_true q425
              have ea_ := Option.some.inj (hx420_0.symm.trans hx425_0)
              injection ea_ with ea_ en_ ec_
              subst ea_
              subst ec_
              clear en_
              have p426 : 0 ≤ (x15_2 : Int) := of_decide_eq_true (by first | (with_reducible assumption) | assumption)
              have q426 : x15_2 < (((rd_T55 t413 0).f0).length : Int) := of_decide_eq_true (by first | (with_reducible assumption) | assumption)
              obtain ⟨ad426, e426, hx426_0, hx426_1, hx426_2, hx426_3⟩ := at_T57 (by repeat (first | (with_reducible exact HR425_0.out) | (with_reducible refine Kd.C_alloc ?_ _) | (with_reducible refine Kd.C_drewN ?_ _) | (with_reducible refine Kd.C_drew ?_) | exact HR425_0.out)) x15_2 p426 q426
              cases e426
              replace p426 := eq_true p426
              replace q426 := eq_true q426
              go_wp2
              repeat (go_quiet (fail); try go_wp2)
              go_roundg k2
              case measure => have := HJ7.out; have := HK2.out; omega
              case rel => exact ⟨(wrap64 (x15_2 + 1)), (by first | rfl | (simp; done) | (simp [*]; done)), H', ⟨by have := HJ7.out; have := HK2.out; omega⟩, ⟨by (with_reducible repeat (first | apply Kd.S_alloc | apply Kd.S_drewN | apply Kd.S_drew)); exact HO_13.out⟩, ⟨by repeat (first | (with_reducible first | exact HB.out | apply below_alloc | apply pw_below_drewN | apply below_drew1) | exact HB.out)⟩⟩
             ·rw [if_neg c31] at H
              have c31b0 : (((rd_T57 ((rd_T55 t413 0).f0) x15_2).f3) == x15_2) = false := beq_eq_false_iff_ne.mpr c31
              have c31b1 : (((rd_T57 ((rd_T55 t413 0).f0) x15_2).f3) != x15_2) = true := bne_iff_ne.mpr c31
              obtain rfl := Option.some.inj H
              obtain ⟨Ao33, co33, eo33⟩ := Kd.S_slice HO_13.out
              subst eo33
              have p420 : 0 ≤ (0 : Int) := (by omega)
              have q420 : 0 < (t413.length : Int) := of_decide_eq_true (by first | (with_reducible assumption) | assumption)
              obtain ⟨ad420, A420_0, c420_0, e420, hx420_0, hx420_1, hx420_2, hl420_0, hi420_0⟩ := at_T55 (Kd.S_reads' HO_13.out).2.2 0 p420 q420
              cases e420
              obtain ⟨ce420, hce420, hMe420, hcc420⟩ := Kd.S_get HO_13.out z55 0 p420 (by first | exact q420 | exact of_decide_eq_true (by first | (with_reducible assumption) | assumption) | (have e_ := (Kd.S_reads' HO_13.out).1; omega))
              obtain ⟨ve420_0, rfl, ge420_0⟩ := k55_openM hMe420
              have hv420_0 := hcc420 0 _ rfl
              rw [Nat.add_zero] at hv420_0
              replace hv420_0 := Option.some.inj (hv420_0.symm.trans hx420_0)
              rw [hv420_0] at ge420_0
              have HL420_0 := Aside0.mk (show Kd.R k57 57 _ _ _ _ ((rd_T55 t413 0).f0) from ge420_0)
              clear hv420_0 ge420_0 hcc420 hce420
              have qi420 : (0 < t413.length) = True := eq_true (by omega)
              (try rw [show ((0 : Int)).toNat = 0 from rfl] at hx420_0)
              (try rw [show 0 * 3 = 0 from rfl] at hx420_0)
              (try rw [Addr.add_zero'] at hx420_0)
              (try rw [show ((0 : Int)).toNat = 0 from rfl] at hx420_1)
              (try rw [show 0 * 3 = 0 from rfl] at hx420_1)
              (try rw [Addr.add_zero'] at hx420_1)
              (try rw [show ((0 : Int)).toNat = 0 from rfl] at hx420_2)
              (try rw [show 0 * 3 = 0 from rfl] at hx420_2)
              (try rw [Addr.add_zero'] at hx420_2)
              have HR420_0 := Aside0.mk hi420_0
              have HC420_0 := Aside0.mk hl420_0
              clear hi420_0 hl420_0
              replace p420 := eq_true p420
              replace q420 := eq_true q420
              have p421 : 0 ≤ (x15_2 : Int) := of_decide_eq_true (by first | (with_reducible assumption) | assumption)
              have q421 : x15_2 < (((rd_T55 t413 0).f0).length : Int) := of_decide_eq_true (by first | (with_reducible assumption) | assumption)
              obtain ⟨ad421, e421, hx421_0, hx421_1, hx421_2, hx421_3⟩ := at_T57 (by repeat (first | (with_reducible exact HR420_0.out) | (with_reducible refine Kd.C_alloc ?_ _) | (with_reducible refine Kd.C_drewN ?_ _) | (with_reducible refine Kd.C_drew ?_) | exact HR420_0.out)) x15_2 p421 q421
              cases e421
              replace p421 := eq_true p421
              replace q421 := eq_true q421
              have p422 : 0 ≤ (x15_2 : Int) := of_decide_eq_true (by first | (with_reducible assumption) | assumption)
              have q422 : x15_2 < (l4.length : Int) := of_decide_eq_true (by first | (with_reducible assumption) | assumption)
              obtain ⟨ad422, e422, hx422_0⟩ := Kd.at_int HR4.out x15_2 p422 q422
              cases e422
              replace hx422_0 := (HB.out.cell (World.block_lt_of_cell? w _ hx422_0)).trans hx422_0
              replace p422 := eq_true p422
              replace q422 := eq_true q422
              have p423 : 0 ≤ (0 : Int) := (by omega)
              have q423 : 0 < (t413.length : Int) := of_decide_eq_true (by first | (with_reducible assumption) | assumption)
              obtain ⟨ad423, A423_0, c423_0, e423, hx423_0, hx423_1, hx423_2, hl423_0, hi423_0⟩ := at_T55 (Kd.S_reads' HO_13.out).2.2 0 p423 q423
              obtain rfl : ad420 = ad423 := (by injection e423)
              obtain ⟨ce423, hce423, hMe423, hcc423⟩ := Kd.S_get HO_13.out z55 0 p423 (by first | exact q423 | exact of_decide_eq_true (by first | (with_reducible assumption) | assumption) | (have e_ := (Kd.S_reads' HO_13.out).1; omega))
              obtain ⟨ve423_0, rfl, ge423_0⟩ := k55_openM hMe423
              have hv423_0 := hcc423 0 _ rfl
              rw [Nat.add_zero] at hv423_0
              replace hv423_0 := Option.some.inj (hv423_0.symm.trans hx423_0)
              rw [hv423_0] at ge423_0
              have HL423_0 := Aside0.mk (show Kd.R k57 57 _ _ _ _ ((rd_T55 t413 0).f0) from ge423_0)
              clear hv423_0 ge423_0 hcc423 hce423
              have qi423 : (0 < t413.length) = True := eq_true (by omega)
              (try rw [show ((0 : Int)).toNat = 0 from rfl] at hx423_0)
              (try rw [show 0 * 3 = 0 from rfl] at hx423_0)
              (try rw [Addr.add_zero'] at hx423_0)
              (try rw [show ((0 : Int)).toNat = 0 from rfl] at hx423_1)
              (try rw [show 0 * 3 = 0 from rfl] at hx423_1)
              (try rw [Addr.add_zero'] at hx423_1)
              (try rw [show ((0 : Int)).toNat = 0 from rfl] at hx423_2)
              (try rw [show 0 * 3 = 0 from rfl] at hx423_2)
              (try rw [Addr.add_zero'] at hx423_2)
              have HR423_0 := Aside0.mk hi423_0
              have HC423_0 := Aside0.mk hl423_0
              clear hi423_0 hl423_0
              replace p423 := eq_true p423
              replace q423 := eq_true q423
              have ea_ := Option.some.inj (hx420_0.symm.trans hx423_0)
              injection ea_ with ea_ en_ ec_
              subst ea_
              subst ec_
              clear en_
              have p424 : 0 ≤ (x15_2 : Int) := of_decide_eq_true (by first | (with_reducible assumption) | assumption)
              have q424 : x15_2 < (((rd_T55 t413 0).f0).length : Int) := of_decide_eq_true (by first | (with_reducible assumption) | assumption)
              obtain ⟨ad424, e424, hx424_0, hx424_1, hx424_2, hx424_3⟩ := at_T57 (by repeat (first | (with_reducible exact HR423_0.out) | (with_reducible refine Kd.C_alloc ?_ _) | (with_reducible refine Kd.C_drewN ?_ _) | (with_reducible refine Kd.C_drew ?_) | exact HR423_0.out)) x15_2 p424 q424
              cases e424
              replace p424 := eq_true p424
              replace q424 := eq_true q424
              have p29 : 0 ≤ (x15_2 : Int) := of_decide_eq_true (by first | (with_reducible assumption) | assumption)
              have q29 : x15_2 < (5 : Int) := of_decide_eq_true (by first | (with_reducible assumption) | assumption)
              have hx29 := bt_at (⟨#[97, 32, 98, 32, 99]⟩ : ByteArray) x15_2
              replace p29 := eq_true p29
              replace q29 := eq_true q29
              have p425 : 0 ≤ (0 : Int) := (by omega)
              have q425 : 0 < (t413.length : Int) := of_decide_eq_true (by first | (with_reducible assumption) | assumption)
              obtain ⟨ad425, A425_0, c425_0, e425, hx425_0, hx425_1, hx425_2, hl425_0, hi425_0⟩ := at_T55 (Kd.S_reads' HO_13.out).2.2 0 p425 q425
              obtain rfl : ad420 = ad425 := (by injection e425)
              obtain ⟨ce425, hce425, hMe425, hcc425⟩ := Kd.S_get HO_13.out z55 0 p425 (by first | exact q425 | exact of_decide_eq_true (by first | (with_reducible assumption) | assumption) | (have e_ := (Kd.S_reads' HO_13.out).1; omega))
              obtain ⟨ve425_0, rfl, ge425_0⟩ := k55_openM hMe425
              have hv425_0 := hcc425 0 _ rfl
              rw [Nat.add_zero] at hv425_0
              replace hv425_0 := Option.some.inj (hv425_0.symm.trans hx425_0)
              rw [hv425_0] at ge425_0
              have HL425_0 := Aside0.mk (show Kd.R k57 57 _ _ _ _ ((rd_T55 t413 0).f0) from ge425_0)
              clear hv425_0 ge425_0 hcc425 hce425
              have qi425 : (0 < t413.length) = True := eq_true (by omega)
              (try rw [show ((0 : Int)).toNat = 0 from rfl] at hx425_0)
              (try rw [show 0 * 3 = 0 from rfl] at hx425_0)
              (try rw [Addr.add_zero'] at hx425_0)
              (try rw [show ((0 : Int)).toNat = 0 from rfl] at hx425_1)
              (try rw [show 0 * 3 = 0 from rfl] at hx425_1)
              (try rw [Addr.add_zero'] at hx425_1)
              (try rw [show ((0 : Int)).toNat = 0 from rfl] at hx425_2)
              (try rw [show 0 * 3 = 0 from rfl] at hx425_2)
              (try rw [Addr.add_zero'] at hx425_2)
              have HR425_0 := Aside0.mk hi425_0
              have HC425_0 := Aside0.mk hl425_0
              clear hi425_0 hl425_0
              replace p425 := eq_true p425
              replace q425 := eq_true q425
              have ea_ := Option.some.inj (hx420_0.symm.trans hx425_0)
              injection ea_ with ea_ en_ ec_
              subst ea_
              subst ec_
              clear en_
              have p426 : 0 ≤ (x15_2 : Int) := of_decide_eq_true (by first | (with_reducible assumption) | assumption)
              have q426 : x15_2 < (((rd_T55 t413 0).f0).length : Int) := of_decide_eq_true (by first | (with_reducible assumption) | assumption)
              obtain ⟨ad426, e426, hx426_0, hx426_1, hx426_2, hx426_3⟩ := at_T57 (by repeat (first | (with_reducible exact HR425_0.out) | (with_reducible refine Kd.C_alloc ?_ _) | (with_reducible refine Kd.C_drewN ?_ _) | (with_reducible refine Kd.C_drew ?_) | exact HR425_0.out)) x15_2 p426 q426
              cases e426
              replace p426 := eq_true p426
              replace q426 := eq_true q426
              go_wp2
              repeat (go_quiet (fail); try go_wp2)
              go_ret
              exact ⟨by first | rfl | (simp [errW_none, errW_some] <;> rfl) | (simp [*, errW_none, errW_some] <;> rfl), by repeat (first | (with_reducible first | exact HB.out | apply below_alloc | apply pw_below_drewN | apply below_drew1) | exact HB.out)⟩
            ·rw [if_neg c30] at H
             have c30b0 : (((rd_T57 ((rd_T55 t413 0).f0) x15_2).f1) == (bt (⟨#[97, 32, 98, 32, 99]⟩ : ByteArray) x15_2)) = false := beq_eq_false_iff_ne.mpr c30
             have c30b1 : (((rd_T57 ((rd_T55 t413 0).f0) x15_2).f1) != (bt (⟨#[97, 32, 98, 32, 99]⟩ : ByteArray) x15_2)) = true := bne_iff_ne.mpr c30
             obtain rfl := Option.some.inj H
             obtain ⟨Ao34, co34, eo34⟩ := Kd.S_slice HO_13.out
             subst eo34
             have p420 : 0 ≤ (0 : Int) := (by omega)
             have q420 : 0 < (t413.length : Int) := of_decide_eq_true (by first | (with_reducible assumption) | assumption)
             obtain ⟨ad420, A420_0, c420_0, e420, hx420_0, hx420_1, hx420_2, hl420_0, hi420_0⟩ := at_T55 (Kd.S_reads' HO_13.out).2.2 0 p420 q420
             cases e420
             obtain ⟨ce420, hce420, hMe420, hcc420⟩ := Kd.S_get HO_13.out z55 0 p420 (by first | exact q420 | exact of_decide_eq_true (by first | (with_reducible assumption) | assumption) | (have e_ := (Kd.S_reads' HO_13.out).1; omega))
             obtain ⟨ve420_0, rfl, ge420_0⟩ := k55_openM hMe420
             have hv420_0 := hcc420 0 _ rfl
             rw [Nat.add_zero] at hv420_0
             replace hv420_0 := Option.some.inj (hv420_0.symm.trans hx420_0)
             rw [hv420_0] at ge420_0
             have HL420_0 := Aside0.mk (show Kd.R k57 57 _ _ _ _ ((rd_T55 t413 0).f0) from ge420_0)
             clear hv420_0 ge420_0 hcc420 hce420
             have qi420 : (0 < t413.length) = True := eq_true (by omega)
             (try rw [show ((0 : Int)).toNat = 0 from rfl] at hx420_0)
             (try rw [show 0 * 3 = 0 from rfl] at hx420_0)
             (try rw [Addr.add_zero'] at hx420_0)
             (try rw [show ((0 : Int)).toNat = 0 from rfl] at hx420_1)
             (try rw [show 0 * 3 = 0 from rfl] at hx420_1)
             (try rw [Addr.add_zero'] at hx420_1)
             (try rw [show ((0 : Int)).toNat = 0 from rfl] at hx420_2)
             (try rw [show 0 * 3 = 0 from rfl] at hx420_2)
             (try rw [Addr.add_zero'] at hx420_2)
             have HR420_0 := Aside0.mk hi420_0
             have HC420_0 := Aside0.mk hl420_0
             clear hi420_0 hl420_0
             replace p420 := eq_true p420
             replace q420 := eq_true q420
             have p421 : 0 ≤ (x15_2 : Int) := of_decide_eq_true (by first | (with_reducible assumption) | assumption)
             have q421 : x15_2 < (((rd_T55 t413 0).f0).length : Int) := of_decide_eq_true (by first | (with_reducible assumption) | assumption)
             obtain ⟨ad421, e421, hx421_0, hx421_1, hx421_2, hx421_3⟩ := at_T57 (by repeat (first | (with_reducible exact HR420_0.out) | (with_reducible refine Kd.C_alloc ?_ _) | (with_reducible refine Kd.C_drewN ?_ _) | (with_reducible refine Kd.C_drew ?_) | exact HR420_0.out)) x15_2 p421 q421
             cases e421
             replace p421 := eq_true p421
             replace q421 := eq_true q421
             have p422 : 0 ≤ (x15_2 : Int) := of_decide_eq_true (by first | (with_reducible assumption) | assumption)
             have q422 : x15_2 < (l4.length : Int) := of_decide_eq_true (by first | (with_reducible assumption) | assumption)
             obtain ⟨ad422, e422, hx422_0⟩ := Kd.at_int HR4.out x15_2 p422 q422
             cases e422
             replace hx422_0 := (HB.out.cell (World.block_lt_of_cell? w _ hx422_0)).trans hx422_0
             replace p422 := eq_true p422
             replace q422 := eq_true q422
             have p423 : 0 ≤ (0 : Int) := (by omega)
             have q423 : 0 < (t413.length : Int) := of_decide_eq_true (by first | (with_reducible assumption) | assumption)
             obtain ⟨ad423, A423_0, c423_0, e423, hx423_0, hx423_1, hx423_2, hl423_0, hi423_0⟩ := at_T55 (Kd.S_reads' HO_13.out).2.2 0 p423 q423
             obtain rfl : ad420 = ad423 := (by injection e423)
             obtain ⟨ce423, hce423, hMe423, hcc423⟩ := Kd.S_get HO_13.out z55 0 p423 (by first | exact q423 | exact of_decide_eq_true (by first | (with_reducible assumption) | assumption) | (have e_ := (Kd.S_reads' HO_13.out).1; omega))
             obtain ⟨ve423_0, rfl, ge423_0⟩ := k55_openM hMe423
             have hv423_0 := hcc423 0 _ rfl
             rw [Nat.add_zero] at hv423_0
             replace hv423_0 := Option.some.inj (hv423_0.symm.trans hx423_0)
             rw [hv423_0] at ge423_0
             have HL423_0 := Aside0.mk (show Kd.R k57 57 _ _ _ _ ((rd_T55 t413 0).f0) from ge423_0)
             clear hv423_0 ge423_0 hcc423 hce423
             have qi423 : (0 < t413.length) = True := eq_true (by omega)
             (try rw [show ((0 : Int)).toNat = 0 from rfl] at hx423_0)
             (try rw [show 0 * 3 = 0 from rfl] at hx423_0)
             (try rw [Addr.add_zero'] at hx423_0)
             (try rw [show ((0 : Int)).toNat = 0 from rfl] at hx423_1)
             (try rw [show 0 * 3 = 0 from rfl] at hx423_1)
             (try rw [Addr.add_zero'] at hx423_1)
             (try rw [show ((0 : Int)).toNat = 0 from rfl] at hx423_2)
             (try rw [show 0 * 3 = 0 from rfl] at hx423_2)
             (try rw [Addr.add_zero'] at hx423_2)
             have HR423_0 := Aside0.mk hi423_0
             have HC423_0 := Aside0.mk hl423_0
             clear hi423_0 hl423_0
             replace p423 := eq_true p423
             replace q423 := eq_true q423
             have ea_ := Option.some.inj (hx420_0.symm.trans hx423_0)
             injection ea_ with ea_ en_ ec_
             subst ea_
             subst ec_
             clear en_
             have p424 : 0 ≤ (x15_2 : Int) := of_decide_eq_true (by first | (with_reducible assumption) | assumption)
             have q424 : x15_2 < (((rd_T55 t413 0).f0).length : Int) := of_decide_eq_true (by first | (with_reducible assumption) | assumption)
             obtain ⟨ad424, e424, hx424_0, hx424_1, hx424_2, hx424_3⟩ := at_T57 (by repeat (first | (with_reducible exact HR423_0.out) | (with_reducible refine Kd.C_alloc ?_ _) | (with_reducible refine Kd.C_drewN ?_ _) | (with_reducible refine Kd.C_drew ?_) | exact HR423_0.out)) x15_2 p424 q424
             cases e424
             replace p424 := eq_true p424
             replace q424 := eq_true q424
             have p29 : 0 ≤ (x15_2 : Int) := of_decide_eq_true (by first | (with_reducible assumption) | assumption)
             have q29 : x15_2 < (5 : Int) := of_decide_eq_true (by first | (with_reducible assumption) | assumption)
             have hx29 := bt_at (⟨#[97, 32, 98, 32, 99]⟩ : ByteArray) x15_2
             replace p29 := eq_true p29
             replace q29 := eq_true q29
             go_wp2
             repeat (go_quiet (fail); try go_wp2)
             go_ret
             exact ⟨by first | rfl | (simp [errW_none, errW_some] <;> rfl) | (simp [*, errW_none, errW_some] <;> rfl), by repeat (first | (with_reducible first | exact HB.out | apply below_alloc | apply pw_below_drewN | apply below_drew1) | exact HB.out)⟩
           ·rw [if_neg c28] at H
            exact absurd H (by simp)
          ·rw [if_neg c27] at H
           have c27b0 : (((rd_T57 ((rd_T55 t413 0).f0) x15_2).f0) == (rd l4 x15_2)) = false := beq_eq_false_iff_ne.mpr c27
           have c27b1 : (((rd_T57 ((rd_T55 t413 0).f0) x15_2).f0) != (rd l4 x15_2)) = true := bne_iff_ne.mpr c27
           obtain rfl := Option.some.inj H
           obtain ⟨Ao35, co35, eo35⟩ := Kd.S_slice HO_13.out
           subst eo35
           have p420 : 0 ≤ (0 : Int) := (by omega)
           have q420 : 0 < (t413.length : Int) := of_decide_eq_true (by first | (with_reducible assumption) | assumption)
           obtain ⟨ad420, A420_0, c420_0, e420, hx420_0, hx420_1, hx420_2, hl420_0, hi420_0⟩ := at_T55 (Kd.S_reads' HO_13.out).2.2 0 p420 q420
           cases e420
           obtain ⟨ce420, hce420, hMe420, hcc420⟩ := Kd.S_get HO_13.out z55 0 p420 (by first | exact q420 | exact of_decide_eq_true (by first | (with_reducible assumption) | assumption) | (have e_ := (Kd.S_reads' HO_13.out).1; omega))
           obtain ⟨ve420_0, rfl, ge420_0⟩ := k55_openM hMe420
           have hv420_0 := hcc420 0 _ rfl
           rw [Nat.add_zero] at hv420_0
           replace hv420_0 := Option.some.inj (hv420_0.symm.trans hx420_0)
           rw [hv420_0] at ge420_0
           have HL420_0 := Aside0.mk (show Kd.R k57 57 _ _ _ _ ((rd_T55 t413 0).f0) from ge420_0)
           clear hv420_0 ge420_0 hcc420 hce420
           have qi420 : (0 < t413.length) = True := eq_true (by omega)
           (try rw [show ((0 : Int)).toNat = 0 from rfl] at hx420_0)
           (try rw [show 0 * 3 = 0 from rfl] at hx420_0)
           (try rw [Addr.add_zero'] at hx420_0)
           (try rw [show ((0 : Int)).toNat = 0 from rfl] at hx420_1)
           (try rw [show 0 * 3 = 0 from rfl] at hx420_1)
           (try rw [Addr.add_zero'] at hx420_1)
           (try rw [show ((0 : Int)).toNat = 0 from rfl] at hx420_2)
           (try rw [show 0 * 3 = 0 from rfl] at hx420_2)
           (try rw [Addr.add_zero'] at hx420_2)
           have HR420_0 := Aside0.mk hi420_0
           have HC420_0 := Aside0.mk hl420_0
           clear hi420_0 hl420_0
           replace p420 := eq_true p420
           replace q420 := eq_true q420
           have p421 : 0 ≤ (x15_2 : Int) := of_decide_eq_true (by first | (with_reducible assumption) | assumption)
           have q421 : x15_2 < (((rd_T55 t413 0).f0).length : Int) := of_decide_eq_true (by first | (with_reducible assumption) | assumption)
           obtain ⟨ad421, e421, hx421_0, hx421_1, hx421_2, hx421_3⟩ := at_T57 (by repeat (first | (with_reducible exact HR420_0.out) | (with_reducible refine Kd.C_alloc ?_ _) | (with_reducible refine Kd.C_drewN ?_ _) | (with_reducible refine Kd.C_drew ?_) | exact HR420_0.out)) x15_2 p421 q421
           cases e421
           replace p421 := eq_true p421
           replace q421 := eq_true q421
           have p422 : 0 ≤ (x15_2 : Int) := of_decide_eq_true (by first | (with_reducible assumption) | assumption)
           have q422 : x15_2 < (l4.length : Int) := of_decide_eq_true (by first | (with_reducible assumption) | assumption)
           obtain ⟨ad422, e422, hx422_0⟩ := Kd.at_int HR4.out x15_2 p422 q422
           cases e422
           replace hx422_0 := (HB.out.cell (World.block_lt_of_cell? w _ hx422_0)).trans hx422_0
           replace p422 := eq_true p422
           replace q422 := eq_true q422
           go_wp2
           repeat (go_quiet (fail); try go_wp2)
           go_ret
           exact ⟨by first | rfl | (simp [errW_none, errW_some] <;> rfl) | (simp [*, errW_none, errW_some] <;> rfl), by repeat (first | (with_reducible first | exact HB.out | apply below_alloc | apply pw_below_drewN | apply below_drew1) | exact HB.out)⟩
         ·rw [if_neg c26] at H
          exact absurd H (by simp)
        ·rw [if_neg c25] at H
         exact absurd H (by simp)
       ·rw [if_neg c24] at H
        exact absurd H (by simp)
      ·rw [if_neg c23] at H
       have c23b0 : decide (x15_2 < (l4.length : Int)) = false := decide_eq_false c23
       clear c23
       obtain rfl := Option.some.inj H
       go_wp2
       repeat (go_quiet (fail); try go_wp2)
       go_ret
       exact ⟨by first | rfl | (simp [errW_none, errW_some] <;> rfl) | (simp [*, errW_none, errW_some] <;> rfl), by repeat (first | (with_reducible first | exact HB.out | apply below_alloc | apply pw_below_drewN | apply below_drew1) | exact HB.out)⟩
def s20_same.l0 : Nat → List Int → List Int → Int → Option (Bool)
 | 0, _, _, _ => none
 | k + 1, x0, x1, x5 => if x5 < (x0.length : Int) then (if 0 ≤ x5 then (if x5 < (x1.length : Int) then (if (rd x0 x5) = (rd x1 x5) then (s20_same.l0 k x0 x1 (wrap64 (x5 + 1))) else (some false)) else (none)) else (none)) else (some true)
def s20_same.f (k : Nat) (l0 : List Int) (l1 : List Int) : Option (Bool) := if (l0.length : Int) = (l1.length : Int) then (s20_same.l0 k l0 l1 0) else (some false)
theorem s20_same.mono_l : ∀ k, (∀ y0 y1 y2, LeO (s20_same.l0 k y0 y1 y2) (s20_same.l0 (k + 1) y0 y1 y2))
 | 0 => fun _ _ _ r h => by simp [s20_same.l0] at h
 | k + 1 => by
  have ih0 := s20_same.mono_l k
  ·intro y0 y1 y2
   unfold s20_same.l0
   repeat' first
   | (with_reducible exact ih0 _ _ _)
   | (with_reducible exact LeO.refl _)
   | (with_reducible exact LeO.none _)
   | (with_reducible refine LeO.ite ?_ ?_)
   | (with_reducible refine LeO.bind ?_ (fun _ => ?_))
   | exact ih0 _ _ _
   | exact LeO.none _
   | refine LeO.ite ?_ ?_
   | refine LeO.bind ?_ (fun _ => ?_)
theorem s20_same.mono : ∀ a0 a1 k, LeO (s20_same.f k a0 a1) (s20_same.f (k + 1) a0 a1) := by
 intro a0 a1 k
 have ih0 := s20_same.mono_l k
 unfold s20_same.f
 repeat' first
   | (with_reducible exact ih0 _ _ _)
   | (with_reducible exact LeO.refl _)
   | (with_reducible exact LeO.none _)
   | (with_reducible refine LeO.ite ?_ ?_)
   | (with_reducible refine LeO.bind ?_ (fun _ => ?_))
   | exact ih0 _ _ _
   | exact LeO.none _
   | refine LeO.ite ?_ ?_
   | refine LeO.bind ?_ (fun _ => ?_)
set_option maxHeartbeats 8000000 in
set_option maxRecDepth 100000 in
theorem s20_same.calls (k : Nat) (A0 : Option Addr) (c0 : Nat) (l0 : List Int) (A1 : Option Addr) (c1 : Nat) (l1 : List Int) (r : Bool) (w : World) (hr0 : Kd.C (Kd.int .i64) w A0 l0.length l0) (hc0 : l0.length ≤ c0) (hr1 : Kd.C (Kd.int .i64) w A1 l1.length l1) (hc1 : l1.length ≤ c1) (h : s20_same.f k l0 l1 = some r) :
  Calls Try.prog 29 #[.slice A0 l0.length c0, .slice A1 l1.length c1] w fun e w' => e = .returned (.bool r) ∧ Drawn0 w w' := by
 have HR0 := Aside0.mk hr0
 have HC0 := Aside0.mk hc0
 clear hr0 hc0
 have HR1 := Aside0.mk hr1
 have HC1 := Aside0.mk hc1
 clear hr1 hc1
 have H : (if (l0.length : Int) = (l1.length : Int) then (s20_same.l0 k l0 l1 0) else (some false)) = some r := h
 clear h
 by_cases c3 : (l0.length : Int) = (l1.length : Int)
 ·rw [if_pos c3] at H
  have c3b0 : ((l0.length : Int) == (l1.length : Int)) = true := beq_iff_eq.mpr c3
  have c3b1 : ((l0.length : Int) != (l1.length : Int)) = false := bne_eq_false_iff_eq.mpr c3
  have c3b2 : (l0.length == l1.length) = true := by first | simpa using c3 | (simp at c3 ⊢; omega)
  clear c3
  have H' := Aside0.mk H
  clear H
  go_enter Try.func29, Try.ntmps29
  go_wp2
  repeat (go_quiet (fail); try go_wp2)
  go_loopg [5] k (fun kq v5 w' => ∃ (x5_1 : Int), v5 = .int .i64 x5_1 ∧ Aside0 (s20_same.l0 kq l0 l1 x5_1 = some r) ∧ Aside0 (kq ≤ k) ∧ Drawn0 w w')
  case atStart => exact ⟨(0), (by first | rfl | (simp; done) | (simp [*]; done)), H', ⟨Nat.le_refl _⟩, by repeat (first | exact Drawn0.refl _ | apply Drawn0.step)⟩
  case round =>
   clear H'
   try clear c1
   try clear c2
   try clear p2
   try clear c3
   try clear c3b0
   try clear c3b1
   try clear c3b2
   obtain ⟨x5_1, rfl, HA, HK1, ⟨m1, rfl⟩⟩ := hrel
   cases gk with
   | zero => exact absurd HA.out (by simp [s20_same.l0])
   | succ k1 =>
    have H := HA.out
    clear HA
    simp only [s20_same.l0] at H
    by_cases c4 : x5_1 < (l0.length : Int)
    ·rw [if_pos c4] at H
     have c4b0 : decide (x5_1 < (l0.length : Int)) = true := decide_eq_true c4
     clear c4
     by_cases c5 : 0 ≤ x5_1
     ·rw [if_pos c5] at H
      have c5b0 : decide (0 ≤ x5_1) = true := decide_eq_true c5
      clear c5
      by_cases c6 : x5_1 < (l1.length : Int)
      ·rw [if_pos c6] at H
       have c6b0 : decide (x5_1 < (l1.length : Int)) = true := decide_eq_true c6
       clear c6
       by_cases c7 : (rd l0 x5_1) = (rd l1 x5_1)
       ·rw [if_pos c7] at H
        have c7b0 : ((rd l0 x5_1) == (rd l1 x5_1)) = true := beq_iff_eq.mpr c7
        have c7b1 : ((rd l0 x5_1) != (rd l1 x5_1)) = false := bne_eq_false_iff_eq.mpr c7
        clear c7
        have H' := Aside0.mk H
        clear H
        have p427 : 0 ≤ (x5_1 : Int) := of_decide_eq_true (by first | (with_reducible assumption) | assumption)
        have q427 : x5_1 < (l0.length : Int) := of_decide_eq_true (by first | (with_reducible assumption) | assumption)
        obtain ⟨ad427, e427, hx427_0⟩ := Kd.at_int HR0.out x5_1 p427 q427
        cases e427
        replace p427 := eq_true p427
        replace q427 := eq_true q427
        have p428 : 0 ≤ (x5_1 : Int) := of_decide_eq_true (by first | (with_reducible assumption) | assumption)
        have q428 : x5_1 < (l1.length : Int) := of_decide_eq_true (by first | (with_reducible assumption) | assumption)
        obtain ⟨ad428, e428, hx428_0⟩ := Kd.at_int HR1.out x5_1 p428 q428
        cases e428
        replace p428 := eq_true p428
        replace q428 := eq_true q428
        go_wp2
        repeat (go_quiet (fail); try go_wp2)
        go_roundg k1
        case measure => have := HK1.out; omega
        case rel => exact ⟨(wrap64 (x5_1 + 1)), (by first | rfl | (simp; done) | (simp [*]; done)), H', ⟨by have := HK1.out; omega⟩, by repeat (first | exact Drawn0.refl _ | apply Drawn0.step)⟩
       ·rw [if_neg c7] at H
        have c7b0 : ((rd l0 x5_1) == (rd l1 x5_1)) = false := beq_eq_false_iff_ne.mpr c7
        have c7b1 : ((rd l0 x5_1) != (rd l1 x5_1)) = true := bne_iff_ne.mpr c7
        obtain rfl := Option.some.inj H
        have p427 : 0 ≤ (x5_1 : Int) := of_decide_eq_true (by first | (with_reducible assumption) | assumption)
        have q427 : x5_1 < (l0.length : Int) := of_decide_eq_true (by first | (with_reducible assumption) | assumption)
        obtain ⟨ad427, e427, hx427_0⟩ := Kd.at_int HR0.out x5_1 p427 q427
        cases e427
        replace p427 := eq_true p427
        replace q427 := eq_true q427
        have p428 : 0 ≤ (x5_1 : Int) := of_decide_eq_true (by first | (with_reducible assumption) | assumption)
        have q428 : x5_1 < (l1.length : Int) := of_decide_eq_true (by first | (with_reducible assumption) | assumption)
        obtain ⟨ad428, e428, hx428_0⟩ := Kd.at_int HR1.out x5_1 p428 q428
        cases e428
        replace p428 := eq_true p428
        replace q428 := eq_true q428
        go_wp2
        repeat (go_quiet (fail); try go_wp2)
        go_ret
        exact ⟨by first | rfl | (simp; done) | (simp [*]; done), by repeat (first | exact Drawn0.refl _ | apply Drawn0.step)⟩
      ·rw [if_neg c6] at H
       exact absurd H (by simp)
     ·rw [if_neg c5] at H
      exact absurd H (by simp)
    ·rw [if_neg c4] at H
     have c4b0 : decide (x5_1 < (l0.length : Int)) = false := decide_eq_false c4
     clear c4
     obtain rfl := Option.some.inj H
     go_wp2
     repeat (go_quiet (fail); try go_wp2)
     go_ret
     exact ⟨by first | rfl | (simp; done) | (simp [*]; done), by repeat (first | exact Drawn0.refl _ | apply Drawn0.step)⟩
 ·rw [if_neg c3] at H
  have c3b0 : ((l0.length : Int) == (l1.length : Int)) = false := beq_eq_false_iff_ne.mpr c3
  have c3b1 : ((l0.length : Int) != (l1.length : Int)) = true := bne_iff_ne.mpr c3
  have c3b2 : (l0.length == l1.length) = false := by first | simpa using c3 | (simp at c3 ⊢; omega)
  obtain rfl := Option.some.inj H
  go_enter Try.func29, Try.ntmps29
  go_wp2
  repeat (go_quiet (fail); try go_wp2)
  go_ret
  exact ⟨by first | rfl | (simp; done) | (simp [*]; done), by repeat (first | exact Drawn0.refl _ | apply Drawn0.step)⟩
mutual
def lines_end.l0 : Nat → List (S43) → Int → Int → Int → Int → Option (Int)
 | 0, _, _, _, _, _ => none
 | k + 1, x0, x1, x7, x8, x9 => if x9 ≤ (x0.length : Int) then (if x9 = (x0.length : Int) then (lines_end.j1 k x0 x1 x7 x8 x9 true) else (if 0 ≤ x9 then (if x9 < (x0.length : Int) then (lines_end.j1 k x0 x1 x7 x8 x9 (((rd_T43 x0 x9).f0) == 2)) else (none)) else (none))) else (some x7)
def lines_end.j1 : Nat → List (S43) → Int → Int → Int → Int → Bool → Option (Int)
 | 0, _, _, _, _, _, _ => none
 | k + 1, x0, x1, x7, x8, x9, x28 => if x28 = true then (if x7 ≥ 0 then (lines_end.j2 k x0 x1 x7 x8 x9 (decide (x8 > x1))) else (lines_end.j2 k x0 x1 x7 x8 x9 false)) else (if x9 < (x0.length : Int) then (if 0 ≤ x9 then ((lines_wide.f ((rd_T43 x0 x9).f0) ((rd_T43 x0 x9).f1) ((rd_T43 x0 x9).f2) ((rd_T43 x0 x9).f3) ((rd_T43 x0 x9).f4)).bind fun t433 => (lines_end.l0 k x0 x1 x7 (wrap64 (x8 + t433)) (wrap64 (x9 + 1)))) else (none)) else (lines_end.l0 k x0 x1 x7 x8 (wrap64 (x9 + 1))))
def lines_end.j2 : Nat → List (S43) → Int → Int → Int → Int → Bool → Option (Int)
 | 0, _, _, _, _, _, _ => none
 | k + 1, x0, x1, x7, x8, x9, x35 => if x35 = true then (some x7) else (if x8 > x1 then (some x9) else (if x9 < (x0.length : Int) then (if 0 ≤ x9 then ((lines_wide.f ((rd_T43 x0 x9).f0) ((rd_T43 x0 x9).f1) ((rd_T43 x0 x9).f2) ((rd_T43 x0 x9).f3) ((rd_T43 x0 x9).f4)).bind fun t431 => (lines_end.l0 k x0 x1 x9 (wrap64 (x8 + t431)) (wrap64 (x9 + 1)))) else (none)) else (lines_end.l0 k x0 x1 x9 x8 (wrap64 (x9 + 1)))))
end
def lines_end.f (k : Nat) (l0 : List (S43)) (a1 : Int) (a2 : Int) : Option (Int) := lines_end.l0 k l0 a1 (-1) 0 a2
theorem lines_end.mono_l : ∀ k, (∀ y0 y1 y2 y3 y4, LeO (lines_end.l0 k y0 y1 y2 y3 y4) (lines_end.l0 (k + 1) y0 y1 y2 y3 y4)) ∧ (∀ y0 y1 y2 y3 y4 y5, LeO (lines_end.j1 k y0 y1 y2 y3 y4 y5) (lines_end.j1 (k + 1) y0 y1 y2 y3 y4 y5)) ∧ (∀ y0 y1 y2 y3 y4 y5, LeO (lines_end.j2 k y0 y1 y2 y3 y4 y5) (lines_end.j2 (k + 1) y0 y1 y2 y3 y4 y5))
 | 0 => ⟨fun _ _ _ _ _ r h => by simp [lines_end.l0] at h, fun _ _ _ _ _ _ r h => by simp [lines_end.j1] at h, fun _ _ _ _ _ _ r h => by simp [lines_end.j2] at h⟩
 | k + 1 => by
  obtain ⟨ih0, ih1, ih2⟩ := lines_end.mono_l k
  refine ⟨?_, ?_, ?_⟩
  ·intro y0 y1 y2 y3 y4
   unfold lines_end.l0
   repeat' first
   | (with_reducible exact ih0 _ _ _ _ _)
   | (with_reducible exact ih1 _ _ _ _ _ _)
   | (with_reducible exact ih2 _ _ _ _ _ _)
   | (with_reducible exact LeO.refl _)
   | (with_reducible exact LeO.none _)
   | (with_reducible refine LeO.ite ?_ ?_)
   | (with_reducible refine LeO.bind ?_ (fun _ => ?_))
   | exact ih0 _ _ _ _ _
   | exact ih1 _ _ _ _ _ _
   | exact ih2 _ _ _ _ _ _
   | exact LeO.none _
   | refine LeO.ite ?_ ?_
   | refine LeO.bind ?_ (fun _ => ?_)
  ·intro y0 y1 y2 y3 y4 y5
   unfold lines_end.j1
   repeat' first
   | (with_reducible exact ih0 _ _ _ _ _)
   | (with_reducible exact ih1 _ _ _ _ _ _)
   | (with_reducible exact ih2 _ _ _ _ _ _)
   | (with_reducible exact LeO.refl _)
   | (with_reducible exact LeO.none _)
   | (with_reducible refine LeO.ite ?_ ?_)
   | (with_reducible refine LeO.bind ?_ (fun _ => ?_))
   | exact ih0 _ _ _ _ _
   | exact ih1 _ _ _ _ _ _
   | exact ih2 _ _ _ _ _ _
   | exact LeO.none _
   | refine LeO.ite ?_ ?_
   | refine LeO.bind ?_ (fun _ => ?_)
  ·intro y0 y1 y2 y3 y4 y5
   unfold lines_end.j2
   repeat' first
   | (with_reducible exact ih0 _ _ _ _ _)
   | (with_reducible exact ih1 _ _ _ _ _ _)
   | (with_reducible exact ih2 _ _ _ _ _ _)
   | (with_reducible exact LeO.refl _)
   | (with_reducible exact LeO.none _)
   | (with_reducible refine LeO.ite ?_ ?_)
   | (with_reducible refine LeO.bind ?_ (fun _ => ?_))
   | exact ih0 _ _ _ _ _
   | exact ih1 _ _ _ _ _ _
   | exact ih2 _ _ _ _ _ _
   | exact LeO.none _
   | refine LeO.ite ?_ ?_
   | refine LeO.bind ?_ (fun _ => ?_)
theorem lines_end.mono : ∀ a0 a1 a2 k, LeO (lines_end.f k a0 a1 a2) (lines_end.f (k + 1) a0 a1 a2) := by
 intro a0 a1 a2 k
 obtain ⟨ih0, ih1, ih2⟩ := lines_end.mono_l k
 unfold lines_end.f
 repeat' first
   | (with_reducible exact ih0 _ _ _ _ _)
   | (with_reducible exact ih1 _ _ _ _ _ _)
   | (with_reducible exact ih2 _ _ _ _ _ _)
   | (with_reducible exact LeO.refl _)
   | (with_reducible exact LeO.none _)
   | (with_reducible refine LeO.ite ?_ ?_)
   | (with_reducible refine LeO.bind ?_ (fun _ => ?_))
   | exact ih0 _ _ _ _ _
   | exact ih1 _ _ _ _ _ _
   | exact ih2 _ _ _ _ _ _
   | exact LeO.none _
   | refine LeO.ite ?_ ?_
   | refine LeO.bind ?_ (fun _ => ?_)
set_option maxHeartbeats 8000000 in
set_option maxRecDepth 100000 in
theorem lines_end.calls (k : Nat) (A0 : Option Addr) (c0 : Nat) (l0 : List (S43)) (a1 : Int) (a2 : Int) (r : Int) (w : World) (hr0 : Kd.C k43 w A0 l0.length l0) (hc0 : l0.length ≤ c0) (h : lines_end.f k l0 a1 a2 = some r) :
  Calls Try.prog 68 #[.slice A0 l0.length c0, .int .i64 a1, .int .i64 a2] w fun e w' => e = .returned (.int .i64 r) ∧ Below w.heap.size w w' := by
 have hu43 := Try.underlying43
 have HR0 := Aside0.mk hr0
 have HC0 := Aside0.mk hc0
 clear hr0 hc0
 have HB := Aside0.mk (Below.refl w.heap.size w)
 have H : (lines_end.l0 k l0 a1 (-1) 0 a2) = some r := h
 clear h
 have H' := Aside0.mk H
 clear H
 go_enter Try.func68, Try.ntmps68
 go_wp2
 go_loopg [7, 8, 9] k (fun kq v7 v8 v9 w' => ∃ (x7_1 : Int) (x8_1 : Int) (x9_1 : Int), v7 = .int .i64 x7_1 ∧ v8 = .int .i64 x8_1 ∧ v9 = .int .i64 x9_1 ∧ Aside0 (lines_end.l0 kq l0 a1 x7_1 x8_1 x9_1 = some r) ∧ Aside0 (kq ≤ k) ∧ Aside0 (Below w.heap.size w w'))
 case atStart => exact ⟨((-1)), (0), (a2), (by first | rfl | (simp; done) | (simp [*]; done)), (by first | rfl | (simp; done) | (simp [*]; done)), (by first | rfl | (simp; done) | (simp [*]; done)), H', ⟨Nat.le_refl _⟩, ⟨by repeat (first | (with_reducible first | exact HB.out | apply below_alloc | apply pw_below_drewN | apply below_drew1) | exact HB.out)⟩⟩
 case round =>
  clear H'
  try clear p2
  obtain ⟨x7_1, x8_1, x9_1, rfl, rfl, rfl, HA, HK1, HB⟩ := hrel
  cases gk with
  | zero => exact absurd HA.out (by simp [lines_end.l0])
  | succ k1 =>
   have H := HA.out
   clear HA
   simp only [lines_end.l0] at H
   by_cases c4 : x9_1 ≤ (l0.length : Int)
   ·rw [if_pos c4] at H
    have c4b0 : decide (x9_1 ≤ (l0.length : Int)) = true := decide_eq_true c4
    clear c4
    have HC5 := Aside0.mk H
    clear H
    go_upto_region 5 with (fail)
    go_cut [28] (fun v28 wc => ∃ (kq : Nat) (x28_4 : Bool), v28 = .bool x28_4 ∧ Aside0 (lines_end.j1 kq l0 a1 x7_1 x8_1 x9_1 x28_4 = some r) ∧ Aside0 (kq ≤ k1) ∧ Aside0 (Below w.heap.size w wc))
    case first =>
     have H := HC5.out
     clear HC5
     by_cases c6 : x9_1 = (l0.length : Int)
     ·rw [if_pos c6] at H
      have c6b0 : (x9_1 == (l0.length : Int)) = true := beq_iff_eq.mpr c6
      have c6b1 : (x9_1 != (l0.length : Int)) = false := bne_eq_false_iff_eq.mpr c6
      clear c6
      (first | rw [c6b0] | (simp only [i64_w, i32_w]; rw [c6b0]) | skip)
      have H' := Aside0.mk H
      clear H
      go_wp2
      go_meet
      case rel => exact ⟨_, (true), (by first | rfl | (simp; done) | (simp [*]; done)), H', ⟨by have := HK1.out; first | omega | exact Nat.le_refl _⟩, ⟨by repeat (first | (with_reducible first | exact HB.out | apply below_alloc | apply pw_below_drewN | apply below_drew1) | exact HB.out)⟩⟩
     ·rw [if_neg c6] at H
      have c6b0 : (x9_1 == (l0.length : Int)) = false := beq_eq_false_iff_ne.mpr c6
      have c6b1 : (x9_1 != (l0.length : Int)) = true := bne_iff_ne.mpr c6
      (first | rw [c6b0] | (simp only [i64_w, i32_w]; rw [c6b0]) | skip)
      by_cases c7 : 0 ≤ x9_1
      ·rw [if_pos c7] at H
       have c7b0 : decide (0 ≤ x9_1) = true := decide_eq_true c7
       clear c7
       by_cases c8 : x9_1 < (l0.length : Int)
       ·rw [if_pos c8] at H
        have c8b0 : decide (x9_1 < (l0.length : Int)) = true := decide_eq_true c8
        clear c8
        have H' := Aside0.mk H
        clear H
        have p429 : 0 ≤ (x9_1 : Int) := of_decide_eq_true (by first | (with_reducible assumption) | assumption)
        have q429 : x9_1 < (l0.length : Int) := of_decide_eq_true (by first | (with_reducible assumption) | assumption)
        obtain ⟨ad429, e429, hx429_0, hx429_1, hx429_2, hx429_3, hx429_4⟩ := at_T43 HR0.out x9_1 p429 q429
        cases e429
        replace hx429_0 := (HB.out.cell (World.block_lt_of_cell? w _ hx429_0)).trans hx429_0
        replace hx429_1 := (HB.out.cell (World.block_lt_of_cell? w _ hx429_1)).trans hx429_1
        replace hx429_2 := (HB.out.cell (World.block_lt_of_cell? w _ hx429_2)).trans hx429_2
        replace hx429_3 := (HB.out.cell (World.block_lt_of_cell? w _ hx429_3)).trans hx429_3
        replace hx429_4 := (HB.out.cell (World.block_lt_of_cell? w _ hx429_4)).trans hx429_4
        replace p429 := eq_true p429
        replace q429 := eq_true q429
        go_wp2
        go_meet
        case rel => exact ⟨_, ((((rd_T43 l0 x9_1).f0) == 2)), (by first | rfl | (simp; done) | (simp [*]; done)), H', ⟨by have := HK1.out; first | omega | exact Nat.le_refl _⟩, ⟨by repeat (first | (with_reducible first | exact HB.out | apply below_alloc | apply pw_below_drewN | apply below_drew1) | exact HB.out)⟩⟩
       ·rw [if_neg c8] at H
        exact absurd H (by simp)
      ·rw [if_neg c7] at H
       exact absurd H (by simp)
    case rest =>
     clear HC5
     try clear p2
     try clear c4
     try clear c4b0
     try clear p4
     try clear q4
     try clear hx4
     try clear c6
     try clear c6b0
     try clear c6b1
     try clear c7
     try clear c7b0
     try clear c8
     try clear c8b0
     try clear hx429_0
     try clear hx429_1
     try clear hx429_2
     try clear hx429_3
     try clear hx429_4
     try clear p2
     try clear p429
     try clear q429
     obtain ⟨kq, x28_4, rfl, HA, HJ4, HB⟩ := hcut
     cases kq with
     | zero => exact absurd HA.out (by simp [lines_end.j1])
     | succ kj4 =>
      have H := HA.out
      clear HA
      simp only [lines_end.j1] at H
      by_cases c9 : x28_4 = true
      ·subst c9
       have H1 : (if x7_1 ≥ 0 then (lines_end.j2 kj4 l0 a1 x7_1 x8_1 x9_1 (decide (x8_1 > a1))) else (lines_end.j2 kj4 l0 a1 x7_1 x8_1 x9_1 false)) = some r := by rw [if_pos rfl] at H; exact H
       clear H
       have H := H1
       clear H1
       have HC10 := Aside0.mk H
       clear H
       go_upto_region 6 with (fail)
       go_cut [35] (fun v35 wc => ∃ (kq : Nat) (x35_9 : Bool), v35 = .bool x35_9 ∧ Aside0 (lines_end.j2 kq l0 a1 x7_1 x8_1 x9_1 x35_9 = some r) ∧ Aside0 (kq ≤ kj4) ∧ Aside0 (Below w.heap.size w wc))
       case first =>
        have H := HC10.out
        clear HC10
        by_cases c11 : x7_1 ≥ 0
        ·rw [if_pos c11] at H
         have c11b0 : decide (0 ≤ x7_1) = true := decide_eq_true c11
         clear c11
         (first | rw [c11b0] | (simp only [i64_w, i32_w]; rw [c11b0]) | skip)
         have H' := Aside0.mk H
         clear H
         go_wp2
         go_meet
         case rel => exact ⟨_, (decide (x8_1 > a1)), (by first | rfl | (simp; done) | (simp [*]; done)), H', ⟨by have := HK1.out; have := HJ4.out; first | omega | exact Nat.le_refl _⟩, ⟨by repeat (first | (with_reducible first | exact HB.out | apply below_alloc | apply pw_below_drewN | apply below_drew1) | exact HB.out)⟩⟩
        ·rw [if_neg c11] at H
         have c11b0 : decide (0 ≤ x7_1) = false := decide_eq_false c11
         clear c11
         (first | rw [c11b0] | (simp only [i64_w, i32_w]; rw [c11b0]) | skip)
         have H' := Aside0.mk H
         clear H
         go_wp2
         go_meet
         case rel => exact ⟨_, (false), (by first | rfl | (simp; done) | (simp [*]; done)), H', ⟨by have := HK1.out; have := HJ4.out; first | omega | exact Nat.le_refl _⟩, ⟨by repeat (first | (with_reducible first | exact HB.out | apply below_alloc | apply pw_below_drewN | apply below_drew1) | exact HB.out)⟩⟩
       case rest =>
        clear HC10
        try clear c1
        try clear p2
        try clear c4
        try clear c4b0
        try clear p4
        try clear q4
        try clear hx4
        try clear c6
        try clear c6b0
        try clear c6b1
        try clear c7
        try clear c7b0
        try clear c8
        try clear c8b0
        try clear c9
        try clear c11
        try clear c11b0
        try clear hx429_0
        try clear hx429_1
        try clear hx429_2
        try clear hx429_3
        try clear hx429_4
        try clear p2
        try clear p4
        try clear p429
        try clear q4
        try clear q429
        obtain ⟨kq, x35_9, rfl, HA, HJ9, HB⟩ := hcut
        cases kq with
        | zero => exact absurd HA.out (by simp [lines_end.j2])
        | succ kj9 =>
         have H := HA.out
         clear HA
         simp only [lines_end.j2] at H
         by_cases c12 : x35_9 = true
         ·subst c12
          have H1 : (some x7_1) = some r := by rw [if_pos rfl] at H; exact H
          clear H
          have H := H1
          clear H1
          obtain rfl := Option.some.inj H
          go_wp2
          go_ret
          exact ⟨by first | rfl | (simp [errW_none, errW_some] <;> rfl) | (simp [*, errW_none, errW_some] <;> rfl), by repeat (first | (with_reducible first | exact HB.out | apply below_alloc | apply pw_below_drewN | apply below_drew1) | exact HB.out)⟩
         ·replace c12 := Bool.eq_false_iff.mpr c12
          subst c12
          have H1 : (if x8_1 > a1 then (some x9_1) else (if x9_1 < (l0.length : Int) then (if 0 ≤ x9_1 then ((lines_wide.f ((rd_T43 l0 x9_1).f0) ((rd_T43 l0 x9_1).f1) ((rd_T43 l0 x9_1).f2) ((rd_T43 l0 x9_1).f3) ((rd_T43 l0 x9_1).f4)).bind fun t431 => (lines_end.l0 kj9 l0 a1 x9_1 (wrap64 (x8_1 + t431)) (wrap64 (x9_1 + 1)))) else (none)) else (lines_end.l0 kj9 l0 a1 x9_1 x8_1 (wrap64 (x9_1 + 1))))) = some r := by rw [if_neg (show ¬ (false = true) by decide)] at H; exact H
          clear H
          have H := H1
          clear H1
          by_cases c13 : x8_1 > a1
          ·rw [if_pos c13] at H
           have c13b0 : decide (a1 < x8_1) = true := decide_eq_true c13
           clear c13
           obtain rfl := Option.some.inj H
           go_wp2
           go_ret
           exact ⟨by first | rfl | (simp [errW_none, errW_some] <;> rfl) | (simp [*, errW_none, errW_some] <;> rfl), by repeat (first | (with_reducible first | exact HB.out | apply below_alloc | apply pw_below_drewN | apply below_drew1) | exact HB.out)⟩
          ·rw [if_neg c13] at H
           have c13b0 : decide (a1 < x8_1) = false := decide_eq_false c13
           clear c13
           by_cases c14 : x9_1 < (l0.length : Int)
           ·rw [if_pos c14] at H
            have c14b0 : decide (x9_1 < (l0.length : Int)) = true := decide_eq_true c14
            clear c14
            by_cases c15 : 0 ≤ x9_1
            ·rw [if_pos c15] at H
             have c15b0 : decide (0 ≤ x9_1) = true := decide_eq_true c15
             clear c15
             replace H := Option.bind_eq_some_iff.mp H
             obtain ⟨t431, A160, H⟩ := H
             replace H : (lines_end.l0 kj9 l0 a1 x9_1 (wrap64 (x8_1 + t431)) (wrap64 (x9_1 + 1))) = some r := H
             have A16 := Aside0.mk A160
             clear A160
             have H' := Aside0.mk H
             clear H
             have p430 : 0 ≤ (x9_1 : Int) := of_decide_eq_true (by first | (with_reducible assumption) | assumption)
             have q430 : x9_1 < (l0.length : Int) := of_decide_eq_true (by first | (with_reducible assumption) | assumption)
             obtain ⟨ad430, e430, hx430_0, hx430_1, hx430_2, hx430_3, hx430_4⟩ := at_T43 HR0.out x9_1 p430 q430
             cases e430
             replace hx430_0 := (HB.out.cell (World.block_lt_of_cell? w _ hx430_0)).trans hx430_0
             replace hx430_1 := (HB.out.cell (World.block_lt_of_cell? w _ hx430_1)).trans hx430_1
             replace hx430_2 := (HB.out.cell (World.block_lt_of_cell? w _ hx430_2)).trans hx430_2
             replace hx430_3 := (HB.out.cell (World.block_lt_of_cell? w _ hx430_3)).trans hx430_3
             replace hx430_4 := (HB.out.cell (World.block_lt_of_cell? w _ hx430_4)).trans hx430_4
             replace p430 := eq_true p430
             replace q430 := eq_true q430
             go_wp2_with (first | ((with_reducible refine gate_callee (f := 81) rfl ?_); refine goesL_ (some 51) rfl rfl Try.func81 (by kernel_rfl) rfl #[.agg #[.int .i64 ((rd_T43 l0 x9_1).f0), .int .i64 ((rd_T43 l0 x9_1).f1), .int .i64 ((rd_T43 l0 x9_1).f2), .int .i64 ((rd_T43 l0 x9_1).f3), .int .i64 ((rd_T43 l0 x9_1).f4)]] rfl (by (try simp only [List.map_toArray, List.map_cons, List.map_nil]); first | done | rfl | (simp only [List.length_drop, List.length_take]; rfl)) ?_; (with_reducible refine (lines_wide.calls ((rd_T43 l0 x9_1).f0) ((rd_T43 l0 x9_1).f1) ((rd_T43 l0 x9_1).f2) ((rd_T43 l0 x9_1).f3) ((rd_T43 l0 x9_1).f4) t431 _ A16.out).mono ?_); rintro e w17 ⟨rfl, hb⟩; refine ⟨_, rfl, ?_⟩; have n0_ := Aside0.mk (below_step (by repeat (first | (with_reducible first | exact HB.out | apply below_alloc | apply pw_below_drewN | apply below_drew1) | exact HB.out)) hb); clear HB; have HB := n0_; clear n0_; (try clear hb); (try clear hb2); (try clear hk); (try clear hi)))
             go_roundg kj9
             case measure => have := HK1.out; have := HJ4.out; have := HJ9.out; omega
             case rel => exact ⟨(x9_1), (wrap64 (x8_1 + t431)), (wrap64 (x9_1 + 1)), (by first | rfl | (simp; done) | (simp [*]; done)), (by first | rfl | (simp; done) | (simp [*]; done)), (by first | rfl | (simp; done) | (simp [*]; done)), H', ⟨by have := HK1.out; have := HJ4.out; have := HJ9.out; omega⟩, ⟨by repeat (first | (with_reducible first | exact HB.out | apply below_alloc | apply pw_below_drewN | apply below_drew1) | exact HB.out)⟩⟩
            ·rw [if_neg c15] at H
             exact absurd H (by simp)
           ·rw [if_neg c14] at H
            have c14b0 : decide (x9_1 < (l0.length : Int)) = false := decide_eq_false c14
            clear c14
            have H' := Aside0.mk H
            clear H
            go_wp2
            go_roundg kj9
            case measure => have := HK1.out; have := HJ4.out; have := HJ9.out; omega
            case rel => exact ⟨(x9_1), (x8_1), (wrap64 (x9_1 + 1)), (by first | rfl | (simp; done) | (simp [*]; done)), (by first | rfl | (simp; done) | (simp [*]; done)), (by first | rfl | (simp; done) | (simp [*]; done)), H', ⟨by have := HK1.out; have := HJ4.out; have := HJ9.out; omega⟩, ⟨by repeat (first | (with_reducible first | exact HB.out | apply below_alloc | apply pw_below_drewN | apply below_drew1) | exact HB.out)⟩⟩
      ·replace c9 := Bool.eq_false_iff.mpr c9
       subst c9
       have H1 : (if x9_1 < (l0.length : Int) then (if 0 ≤ x9_1 then ((lines_wide.f ((rd_T43 l0 x9_1).f0) ((rd_T43 l0 x9_1).f1) ((rd_T43 l0 x9_1).f2) ((rd_T43 l0 x9_1).f3) ((rd_T43 l0 x9_1).f4)).bind fun t433 => (lines_end.l0 kj4 l0 a1 x7_1 (wrap64 (x8_1 + t433)) (wrap64 (x9_1 + 1)))) else (none)) else (lines_end.l0 kj4 l0 a1 x7_1 x8_1 (wrap64 (x9_1 + 1)))) = some r := by rw [if_neg (show ¬ (false = true) by decide)] at H; exact H
       clear H
       have H := H1
       clear H1
       by_cases c18 : x9_1 < (l0.length : Int)
       ·rw [if_pos c18] at H
        have c18b0 : decide (x9_1 < (l0.length : Int)) = true := decide_eq_true c18
        clear c18
        by_cases c19 : 0 ≤ x9_1
        ·rw [if_pos c19] at H
         have c19b0 : decide (0 ≤ x9_1) = true := decide_eq_true c19
         clear c19
         replace H := Option.bind_eq_some_iff.mp H
         obtain ⟨t433, A200, H⟩ := H
         replace H : (lines_end.l0 kj4 l0 a1 x7_1 (wrap64 (x8_1 + t433)) (wrap64 (x9_1 + 1))) = some r := H
         have A20 := Aside0.mk A200
         clear A200
         have H' := Aside0.mk H
         clear H
         have p432 : 0 ≤ (x9_1 : Int) := of_decide_eq_true (by first | (with_reducible assumption) | assumption)
         have q432 : x9_1 < (l0.length : Int) := of_decide_eq_true (by first | (with_reducible assumption) | assumption)
         obtain ⟨ad432, e432, hx432_0, hx432_1, hx432_2, hx432_3, hx432_4⟩ := at_T43 HR0.out x9_1 p432 q432
         cases e432
         replace hx432_0 := (HB.out.cell (World.block_lt_of_cell? w _ hx432_0)).trans hx432_0
         replace hx432_1 := (HB.out.cell (World.block_lt_of_cell? w _ hx432_1)).trans hx432_1
         replace hx432_2 := (HB.out.cell (World.block_lt_of_cell? w _ hx432_2)).trans hx432_2
         replace hx432_3 := (HB.out.cell (World.block_lt_of_cell? w _ hx432_3)).trans hx432_3
         replace hx432_4 := (HB.out.cell (World.block_lt_of_cell? w _ hx432_4)).trans hx432_4
         replace p432 := eq_true p432
         replace q432 := eq_true q432
         go_wp2_with (first | ((with_reducible refine gate_callee (f := 81) rfl ?_); refine goesL_ (some 51) rfl rfl Try.func81 (by kernel_rfl) rfl #[.agg #[.int .i64 ((rd_T43 l0 x9_1).f0), .int .i64 ((rd_T43 l0 x9_1).f1), .int .i64 ((rd_T43 l0 x9_1).f2), .int .i64 ((rd_T43 l0 x9_1).f3), .int .i64 ((rd_T43 l0 x9_1).f4)]] rfl (by (try simp only [List.map_toArray, List.map_cons, List.map_nil]); first | done | rfl | (simp only [List.length_drop, List.length_take]; rfl)) ?_; (with_reducible refine (lines_wide.calls ((rd_T43 l0 x9_1).f0) ((rd_T43 l0 x9_1).f1) ((rd_T43 l0 x9_1).f2) ((rd_T43 l0 x9_1).f3) ((rd_T43 l0 x9_1).f4) t433 _ A20.out).mono ?_); rintro e w21 ⟨rfl, hb⟩; refine ⟨_, rfl, ?_⟩; have n0_ := Aside0.mk (below_step (by repeat (first | (with_reducible first | exact HB.out | apply below_alloc | apply pw_below_drewN | apply below_drew1) | exact HB.out)) hb); clear HB; have HB := n0_; clear n0_; (try clear hb); (try clear hb2); (try clear hk); (try clear hi)))
         go_roundg kj4
         case measure => have := HK1.out; have := HJ4.out; omega
         case rel => exact ⟨(x7_1), (wrap64 (x8_1 + t433)), (wrap64 (x9_1 + 1)), (by first | rfl | (simp; done) | (simp [*]; done)), (by first | rfl | (simp; done) | (simp [*]; done)), (by first | rfl | (simp; done) | (simp [*]; done)), H', ⟨by have := HK1.out; have := HJ4.out; omega⟩, ⟨by repeat (first | (with_reducible first | exact HB.out | apply below_alloc | apply pw_below_drewN | apply below_drew1) | exact HB.out)⟩⟩
        ·rw [if_neg c19] at H
         exact absurd H (by simp)
       ·rw [if_neg c18] at H
        have c18b0 : decide (x9_1 < (l0.length : Int)) = false := decide_eq_false c18
        clear c18
        have H' := Aside0.mk H
        clear H
        go_wp2
        go_roundg kj4
        case measure => have := HK1.out; have := HJ4.out; omega
        case rel => exact ⟨(x7_1), (x8_1), (wrap64 (x9_1 + 1)), (by first | rfl | (simp; done) | (simp [*]; done)), (by first | rfl | (simp; done) | (simp [*]; done)), (by first | rfl | (simp; done) | (simp [*]; done)), H', ⟨by have := HK1.out; have := HJ4.out; omega⟩, ⟨by repeat (first | (with_reducible first | exact HB.out | apply below_alloc | apply pw_below_drewN | apply below_drew1) | exact HB.out)⟩⟩
   ·rw [if_neg c4] at H
    have c4b0 : decide (x9_1 ≤ (l0.length : Int)) = false := decide_eq_false c4
    clear c4
    obtain rfl := Option.some.inj H
    go_wp2
    go_ret
    exact ⟨by first | rfl | (simp [errW_none, errW_some] <;> rfl) | (simp [*, errW_none, errW_some] <;> rfl), by repeat (first | (with_reducible first | exact HB.out | apply below_alloc | apply pw_below_drewN | apply below_drew1) | exact HB.out)⟩
def lines_Fill.l0 : Nat → List (S43) → Int → List Int → Int → Option (List Int × Int)
 | 0, _, _, _, _ => none
 | k + 1, x0, x1, x7, x8 => if (x7.length : Int) = 0 then ((lines_end.f k x0 x1 x8).bind fun t435 => (if x7.length < 17592186044416 then ((some (x7 ++ [t435] : List Int)).bind fun y436 => (if 0 ≤ (wrap64 ((y436.length : Int) - 1)) then (if (wrap64 ((y436.length : Int) - 1)) < (y436.length : Int) then (lines_Fill.l0 k x0 x1 y436 (wrap64 ((rd y436 (wrap64 ((y436.length : Int) - 1))) + 1))) else (none)) else (none))) else (none))) else (if 0 ≤ (wrap64 ((x7.length : Int) - 1)) then (if (wrap64 ((x7.length : Int) - 1)) < (x7.length : Int) then (if (rd x7 (wrap64 ((x7.length : Int) - 1))) < (x0.length : Int) then ((lines_end.f k x0 x1 x8).bind fun t441 => (if x7.length < 17592186044416 then ((some (x7 ++ [t441] : List Int)).bind fun y442 => (if 0 ≤ (wrap64 ((y442.length : Int) - 1)) then (if (wrap64 ((y442.length : Int) - 1)) < (y442.length : Int) then (lines_Fill.l0 k x0 x1 y442 (wrap64 ((rd y442 (wrap64 ((y442.length : Int) - 1))) + 1))) else (none)) else (none))) else (none))) else (some (x7, 0))) else (none)) else (none))
def lines_Fill.f (k : Nat) (l0 : List (S43)) (a1 : Int) : Option (List Int × Int) := (best_Check.f l0 a1).bind fun t434 => (if t434 = 0 then (lines_Fill.l0 k l0 a1 ([] : List Int) 0) else (some (([] : List Int), t434)))
theorem lines_Fill.mono_l : ∀ k, (∀ y0 y1 y2 y3, LeO (lines_Fill.l0 k y0 y1 y2 y3) (lines_Fill.l0 (k + 1) y0 y1 y2 y3))
 | 0 => fun _ _ _ _ r h => by simp [lines_Fill.l0] at h
 | k + 1 => by
  have ih0 := lines_Fill.mono_l k
  ·intro y0 y1 y2 y3
   unfold lines_Fill.l0
   repeat' first
   | (with_reducible exact ih0 _ _ _ _)
   | (with_reducible exact lines_end.mono _ _ _ _)
   | (with_reducible exact LeO.refl _)
   | (with_reducible exact LeO.none _)
   | (with_reducible refine LeO.ite ?_ ?_)
   | (with_reducible refine LeO.bind ?_ (fun _ => ?_))
   | exact ih0 _ _ _ _
   | exact lines_end.mono _ _ _ _
   | exact LeO.none _
   | refine LeO.ite ?_ ?_
   | refine LeO.bind ?_ (fun _ => ?_)
theorem lines_Fill.mono : ∀ a0 a1 k, LeO (lines_Fill.f k a0 a1) (lines_Fill.f (k + 1) a0 a1) := by
 intro a0 a1 k
 have ih0 := lines_Fill.mono_l k
 unfold lines_Fill.f
 repeat' first
   | (with_reducible exact ih0 _ _ _ _)
   | (with_reducible exact lines_end.mono _ _ _ _)
   | (with_reducible exact LeO.refl _)
   | (with_reducible exact LeO.none _)
   | (with_reducible refine LeO.ite ?_ ?_)
   | (with_reducible refine LeO.bind ?_ (fun _ => ?_))
   | exact ih0 _ _ _ _
   | exact lines_end.mono _ _ _ _
   | exact LeO.none _
   | refine LeO.ite ?_ ?_
   | refine LeO.bind ?_ (fun _ => ?_)
set_option maxHeartbeats 8000000 in
set_option maxRecDepth 100000 in
theorem lines_Fill.calls (k : Nat) (A0 : Option Addr) (c0 : Nat) (l0 : List (S43)) (a1 : Int) (r1 : List Int) (r2 : Int) (w : World) (hr0 : Kd.C k43 w A0 l0.length l0) (hc0 : l0.length ≤ c0) (h : lines_Fill.f k l0 a1 = some (r1, r2)) :
  Calls Try.prog 33 #[.slice A0 l0.length c0, .int .i64 a1] w fun e w' => ∃ v0_ : Value, e = .returned (.tuple #[v0_, .int .i64 r2]) ∧ Kd.R (Kd.int .i64) 3 w' w.heap.size (fun _ => True) v0_ r1 ∧ Below w.heap.size w w' := by
 have HR0 := Aside0.mk hr0
 have HC0 := Aside0.mk hc0
 clear hr0 hc0
 have HB := Aside0.mk (Below.refl w.heap.size w)
 have H : ((best_Check.f l0 a1).bind fun t434 => (if t434 = 0 then (lines_Fill.l0 k l0 a1 ([] : List Int) 0) else (some (([] : List Int), t434)))) = some (r1, r2) := h
 clear h
 replace H := Option.bind_eq_some_iff.mp H
 obtain ⟨t434, A30, H⟩ := H
 replace H : (if t434 = 0 then (lines_Fill.l0 k l0 a1 ([] : List Int) 0) else (some (([] : List Int), t434))) = some (r1, r2) := H
 have A3 := Aside0.mk A30
 clear A30
 by_cases c4 : t434 = 0
 ·rw [if_pos c4] at H
  have c4b0 : (t434 == 0) = true := beq_iff_eq.mpr c4
  have c4b1 : (t434 != 0) = false := bne_eq_false_iff_eq.mpr c4
  clear c4
  have H' := Aside0.mk H
  clear H
  go_enter Try.func33, Try.ntmps33
  go_wp2_with (first | ((with_reducible refine gate_callee (f := 16) rfl ?_); refine goesL_ (some 11) rfl rfl Try.func16 (by kernel_rfl) rfl #[.slice A0 l0.length c0, .int .i64 a1] rfl (by (try simp only [List.map_toArray, List.map_cons, List.map_nil]); first | done | rfl | (simp only [List.length_drop, List.length_take]; rfl)) ?_; (with_reducible refine (best_Check.calls _ _ l0 a1 t434 _ ?side1 ?side2 A3.out).mono ?_); (case side1 => repeat (first | exact HR0.out | (with_reducible refine Kd.C_alloc ?_ _) | (with_reducible refine Kd.C_drewN ?_ _) | (with_reducible refine Kd.C_drew ?_))); (case side2 => exact HC0.out); rintro e w5 ⟨rfl, hb⟩; refine ⟨_, rfl, ?_⟩; have n0_ := Aside0.mk (below_step (by repeat (first | (with_reducible first | exact HB.out | apply below_alloc | apply pw_below_drewN | apply below_drew1) | exact HB.out)) hb); clear HB; have HB := n0_; clear n0_; (try clear hb); (try clear hb2); (try clear hk); (try clear hi)))
  go_loopg [7, 8] k (fun kq v7 v8 w' => ∃ (x7_1 : List Int) (x8_1 : Int), v8 = .int .i64 x8_1 ∧ Aside0 (lines_Fill.l0 kq l0 a1 x7_1 x8_1 = some (r1, r2)) ∧ Aside0 (kq ≤ k) ∧ Aside0 (Kd.R (Kd.int .i64) 3 w' w.heap.size (fun _ => True) v7 x7_1) ∧ Aside0 (Below w.heap.size w w'))
  case atStart => exact ⟨(([] : List Int)), (0), (by first | rfl | (simp; done) | (simp [*]; done)), H', ⟨Nat.le_refl _⟩, ⟨by first | exact Kd.R_nil _ _ _ _ _ | exact Kd.N_nil _ _ _ _ _ | exact Kd.V_nil _ _ _ _ _ | exact Kd.Q_nil _ _ _ _ _ | exact Kd.S_nil _ _ _ _ _⟩, ⟨by repeat (first | (with_reducible first | exact HB.out | apply below_alloc | apply pw_below_drewN | apply below_drew1) | exact HB.out)⟩⟩
  case round =>
   clear H'
   try clear c1
   try clear p2
   try clear c3
   try clear c4
   try clear c4b0
   try clear c4b1
   obtain ⟨x7_1, x8_1, rfl, HA, HK1, HO_7, HB⟩ := hrel
   cases gk with
   | zero => exact absurd HA.out (by simp [lines_Fill.l0])
   | succ k1 =>
    have H := HA.out
    clear HA
    simp only [lines_Fill.l0] at H
    by_cases c6 : (x7_1.length : Int) = 0
    ·rw [if_pos c6] at H
     have c6b0 : ((x7_1.length : Int) == 0) = true := beq_iff_eq.mpr c6
     have c6b1 : ((x7_1.length : Int) != 0) = false := bne_eq_false_iff_eq.mpr c6
     clear c6
     replace H := Option.bind_eq_some_iff.mp H
     obtain ⟨t435, A70, H⟩ := H
     replace H : (if x7_1.length < 17592186044416 then ((some (x7_1 ++ [t435] : List Int)).bind fun y436 => (if 0 ≤ (wrap64 ((y436.length : Int) - 1)) then (if (wrap64 ((y436.length : Int) - 1)) < (y436.length : Int) then (lines_Fill.l0 k1 l0 a1 y436 (wrap64 ((rd y436 (wrap64 ((y436.length : Int) - 1))) + 1))) else (none)) else (none))) else (none)) = some (r1, r2) := H
     have A7 := Aside0.mk A70
     clear A70
     by_cases c8 : x7_1.length < 17592186044416
     ·rw [if_pos c8] at H
      have LMc8 := Aside0.mk c8
      clear c8
      obtain ⟨y436, hy436⟩ : ∃ y_ : List Int, y_ = (x7_1 ++ [t435]) := ⟨_, rfl⟩
      replace H : (if 0 ≤ (wrap64 ((y436.length : Int) - 1)) then (if (wrap64 ((y436.length : Int) - 1)) < (y436.length : Int) then (lines_Fill.l0 k1 l0 a1 y436 (wrap64 ((rd y436 (wrap64 ((y436.length : Int) - 1))) + 1))) else (none)) else (none)) = some (r1, r2) := by first | (rw [hy436]; with_reducible exact H) | (have H2_ := (Option.bind_some _ _).symm.trans H; rw [hy436]; with_reducible exact H2_) | (have H2_ := (Option.bind_some _ _).symm.trans H; with_reducible exact H2_) | with_reducible exact H | (rw [hy436]; exact H) | exact H
      have Ny436 := Aside0.mk hy436
      clear hy436
      obtain ⟨ji9, hji9⟩ : ∃ j_ : Int, (wrap64 ((y436.length : Int) - 1)) = j_ := ⟨_, rfl⟩
      replace H : (if 0 ≤ (ji9) then (if (ji9) < (y436.length : Int) then (lines_Fill.l0 k1 l0 a1 y436 (wrap64 ((rd y436 (ji9)) + 1))) else (none)) else (none)) = some (r1, r2) := by first | (rw [hji9] at H; exact H) | (simp only [hji9] at H ⊢; exact H)
      (try rw [hji9] at A7)
      have hji9w : (IntKind.i64.wrap ((y436.length : Int) - 1)) = ji9 := (i64_w _).trans hji9
      by_cases c10 : 0 ≤ (ji9)
      ·rw [if_pos c10] at H
       have c10b0 : decide (0 ≤ (ji9)) = true := decide_eq_true c10
       clear c10
       by_cases c11 : (ji9) < (y436.length : Int)
       ·rw [if_pos c11] at H
        have c11b0 : decide ((ji9) < (y436.length : Int)) = true := decide_eq_true c11
        clear c11
        have H' := Aside0.mk H
        clear H
        obtain ⟨Ao12, co12, eo12⟩ := Kd.R_slice HO_7.out
        subst eo12
        go_wp2_with (first | ((with_reducible refine gate_callee (f := 68) rfl ?_); refine goesL_ (some 40) rfl rfl Try.func68 (by kernel_rfl) rfl #[.slice A0 l0.length c0, .int .i64 a1, .int .i64 x8_1] rfl (by (try simp only [List.map_toArray, List.map_cons, List.map_nil]); first | done | rfl | (simp only [List.length_drop, List.length_take]; rfl)) ?_; (with_reducible refine (lines_end.calls k1 _ _ l0 a1 x8_1 t435 _ ?side1 ?side2 A7.out).mono ?_); (case side1 => repeat (first | exact (Kd.C_below HR0.out HB.out) | (with_reducible refine Kd.C_alloc ?_ _) | (with_reducible refine Kd.C_drewN ?_ _) | (with_reducible refine Kd.C_drew ?_))); (case side2 => exact HC0.out); rintro e w13 ⟨rfl, hb⟩; refine ⟨_, rfl, ?_⟩; have n0_ := Aside0.mk (Kd.R_below (by (with_reducible repeat (first | apply Kd.R_alloc | apply Kd.R_drewN | apply Kd.R_drew)); exact HO_7.out) hb); have n1_ := Aside0.mk (below_step (by repeat (first | (with_reducible first | exact HB.out | apply below_alloc | apply pw_below_drewN | apply below_drew1) | exact HB.out)) hb); clear HO_7; clear HB; have HO_7 := n0_; have HB := n1_; clear n0_ n1_; (try clear hb); (try clear hb2); (try clear hk); (try clear hi)) | ((with_reducible refine gate_builtin (b := .append) (xs := #[.tmp 36, .tmp 41]) rfl ?_); (try (refine gate_guard (by rfl) ?_; dsimp only)); at_builtin; refine Kd.R_append (Kd.int .i64) (w0 := w) w.heap.size rfl (.tmp 36) (.tmp 41) 25 3 (.int .i64 0) 8 rfl Try.underlying25 info3 rfl (by decide) (by omega) (.slice Ao12 x7_1.length co12) x7_1 t435 [.int .i64 t435] (fun _ => True) (fun _ => False) rfl rfl ?aP (fun _ hk => hk.elim) ?aF ?aO ?aB ?aS ?aL ?_; (case aP => exact rfl); (case aB => exact (by repeat (first | (with_reducible first | exact HB.out | apply below_alloc | apply pw_below_drewN | apply below_drew1) | exact HB.out))); (case aF => exact (fun _ _ => trivial)); (case aO => exact (by (with_reducible repeat (first | apply Kd.R_alloc | apply Kd.R_drewN | apply Kd.R_drew)); exact HO_7.out)); (case aS => exact (below_size (by repeat (first | (with_reducible first | exact HB.out | apply below_alloc | apply pw_below_drewN | apply below_drew1) | exact HB.out)))); (case aL => have := LMc8.out; omega); intro v437 w14 ho hb hg hat; rw [← Ny436.out] at ho; have n0_ := Aside0.mk (hb); have n1_ := Aside0.mk (ho); clear HB; clear HO_7; have HB := n0_; have HO438 := n1_; clear n0_ n1_; clear ho hb hg hat; obtain ⟨Ao15, co15, eo15⟩ := Kd.R_slice HO438.out; subst eo15; have p439 : 0 ≤ ((ji9) : Int) := of_decide_eq_true (by first | (with_reducible assumption) | assumption); have q439 : (ji9) < (y436.length : Int) := of_decide_eq_true (by first | (with_reducible assumption) | assumption); obtain ⟨ad439, e439, hx439_0⟩ := Kd.at_int (Kd.R_reads' HO438.out).2.2 (ji9) p439 q439; cases e439; replace p439 := eq_true p439; replace q439 := eq_true q439))
        go_roundg k1
        case measure => have := HK1.out; omega
        case rel => exact ⟨(y436), (wrap64 ((rd y436 (ji9)) + 1)), (by first | rfl | (simp; done) | (simp only [← hji9] <;> (first | rfl | simp)) | (simp [*]; done)), H', ⟨by have := HK1.out; omega⟩, ⟨by (with_reducible repeat (first | apply Kd.R_alloc | apply Kd.R_drewN | apply Kd.R_drew)); exact HO438.out⟩, ⟨by repeat (first | (with_reducible first | exact HB.out | apply below_alloc | apply pw_below_drewN | apply below_drew1) | exact HB.out)⟩⟩
       ·rw [if_neg c11] at H
        exact absurd H (by simp)
      ·rw [if_neg c10] at H
       exact absurd H (by simp)
     ·rw [if_neg c8] at H
      exact absurd H (by simp)
    ·rw [if_neg c6] at H
     have c6b0 : ((x7_1.length : Int) == 0) = false := beq_eq_false_iff_ne.mpr c6
     have c6b1 : ((x7_1.length : Int) != 0) = true := bne_iff_ne.mpr c6
     have c6b2 : ¬ (x7_1 = []) := fun h_ => c6 (by rw [h_]; rfl)
     obtain ⟨ji16, hji16⟩ : ∃ j_ : Int, (wrap64 ((x7_1.length : Int) - 1)) = j_ := ⟨_, rfl⟩
     replace H : (if 0 ≤ (ji16) then (if (ji16) < (x7_1.length : Int) then (if (rd x7_1 (ji16)) < (l0.length : Int) then ((lines_end.f k1 l0 a1 x8_1).bind fun t441 => (if x7_1.length < 17592186044416 then ((some (x7_1 ++ [t441] : List Int)).bind fun y442 => (if 0 ≤ (wrap64 ((y442.length : Int) - 1)) then (if (wrap64 ((y442.length : Int) - 1)) < (y442.length : Int) then (lines_Fill.l0 k1 l0 a1 y442 (wrap64 ((rd y442 (wrap64 ((y442.length : Int) - 1))) + 1))) else (none)) else (none))) else (none))) else (some (x7_1, 0))) else (none)) else (none)) = some (r1, r2) := by first | (rw [hji16] at H; exact H) | (simp only [hji16] at H ⊢; exact H)
     have hji16w : (IntKind.i64.wrap ((x7_1.length : Int) - 1)) = ji16 := (i64_w _).trans hji16
     by_cases c17 : 0 ≤ (ji16)
     ·rw [if_pos c17] at H
      have c17b0 : decide (0 ≤ (ji16)) = true := decide_eq_true c17
      clear c17
      by_cases c18 : (ji16) < (x7_1.length : Int)
      ·rw [if_pos c18] at H
       have c18b0 : decide ((ji16) < (x7_1.length : Int)) = true := decide_eq_true c18
       clear c18
       by_cases c19 : (rd x7_1 (ji16)) < (l0.length : Int)
       ·rw [if_pos c19] at H
        have c19b0 : decide ((rd x7_1 (ji16)) < (l0.length : Int)) = true := decide_eq_true c19
        clear c19
        replace H := Option.bind_eq_some_iff.mp H
        obtain ⟨t441, A200, H⟩ := H
        replace H : (if x7_1.length < 17592186044416 then ((some (x7_1 ++ [t441] : List Int)).bind fun y442 => (if 0 ≤ (wrap64 ((y442.length : Int) - 1)) then (if (wrap64 ((y442.length : Int) - 1)) < (y442.length : Int) then (lines_Fill.l0 k1 l0 a1 y442 (wrap64 ((rd y442 (wrap64 ((y442.length : Int) - 1))) + 1))) else (none)) else (none))) else (none)) = some (r1, r2) := H
        have A20 := Aside0.mk A200
        clear A200
        by_cases c21 : x7_1.length < 17592186044416
        ·rw [if_pos c21] at H
         have LMc21 := Aside0.mk c21
         clear c21
         obtain ⟨y442, hy442⟩ : ∃ y_ : List Int, y_ = (x7_1 ++ [t441]) := ⟨_, rfl⟩
         replace H : (if 0 ≤ (wrap64 ((y442.length : Int) - 1)) then (if (wrap64 ((y442.length : Int) - 1)) < (y442.length : Int) then (lines_Fill.l0 k1 l0 a1 y442 (wrap64 ((rd y442 (wrap64 ((y442.length : Int) - 1))) + 1))) else (none)) else (none)) = some (r1, r2) := by first | (rw [hy442]; with_reducible exact H) | (have H2_ := (Option.bind_some _ _).symm.trans H; rw [hy442]; with_reducible exact H2_) | (have H2_ := (Option.bind_some _ _).symm.trans H; with_reducible exact H2_) | with_reducible exact H | (rw [hy442]; exact H) | exact H
         have Ny442 := Aside0.mk hy442
         clear hy442
         obtain ⟨ji22, hji22⟩ : ∃ j_ : Int, (wrap64 ((y442.length : Int) - 1)) = j_ := ⟨_, rfl⟩
         replace H : (if 0 ≤ (ji22) then (if (ji22) < (y442.length : Int) then (lines_Fill.l0 k1 l0 a1 y442 (wrap64 ((rd y442 (ji22)) + 1))) else (none)) else (none)) = some (r1, r2) := by first | (rw [hji22] at H; exact H) | (simp only [hji22] at H ⊢; exact H)
         (try rw [hji22] at A20)
         have hji22w : (IntKind.i64.wrap ((y442.length : Int) - 1)) = ji22 := (i64_w _).trans hji22
         by_cases c23 : 0 ≤ (ji22)
         ·rw [if_pos c23] at H
          have c23b0 : decide (0 ≤ (ji22)) = true := decide_eq_true c23
          clear c23
          by_cases c24 : (ji22) < (y442.length : Int)
          ·rw [if_pos c24] at H
           have c24b0 : decide ((ji22) < (y442.length : Int)) = true := decide_eq_true c24
           clear c24
           have H' := Aside0.mk H
           clear H
           obtain ⟨Ao25, co25, eo25⟩ := Kd.R_slice HO_7.out
           subst eo25
           have p440 : 0 ≤ ((ji16) : Int) := of_decide_eq_true (by first | (with_reducible assumption) | assumption)
           have q440 : (ji16) < (x7_1.length : Int) := of_decide_eq_true (by first | (with_reducible assumption) | assumption)
           obtain ⟨ad440, e440, hx440_0⟩ := Kd.at_int (Kd.R_reads' HO_7.out).2.2 (ji16) p440 q440
           cases e440
           replace p440 := eq_true p440
           replace q440 := eq_true q440
           go_wp2_with (first | ((with_reducible refine gate_callee (f := 68) rfl ?_); refine goesL_ (some 40) rfl rfl Try.func68 (by kernel_rfl) rfl #[.slice A0 l0.length c0, .int .i64 a1, .int .i64 x8_1] rfl (by (try simp only [List.map_toArray, List.map_cons, List.map_nil]); first | done | rfl | (simp only [List.length_drop, List.length_take]; rfl)) ?_; (with_reducible refine (lines_end.calls k1 _ _ l0 a1 x8_1 t441 _ ?side1 ?side2 A20.out).mono ?_); (case side1 => repeat (first | exact (Kd.C_below HR0.out HB.out) | (with_reducible refine Kd.C_alloc ?_ _) | (with_reducible refine Kd.C_drewN ?_ _) | (with_reducible refine Kd.C_drew ?_))); (case side2 => exact HC0.out); rintro e w26 ⟨rfl, hb⟩; refine ⟨_, rfl, ?_⟩; have n0_ := Aside0.mk (Kd.R_below (by (with_reducible repeat (first | apply Kd.R_alloc | apply Kd.R_drewN | apply Kd.R_drew)); exact HO_7.out) hb); have n1_ := Aside0.mk (below_step (by repeat (first | (with_reducible first | exact HB.out | apply below_alloc | apply pw_below_drewN | apply below_drew1) | exact HB.out)) hb); clear HO_7; clear HB; have HO_7 := n0_; have HB := n1_; clear n0_ n1_; (try clear hb); (try clear hb2); (try clear hk); (try clear hi)) | ((with_reducible refine gate_builtin (b := .append) (xs := #[.tmp 36, .tmp 41]) rfl ?_); (try (refine gate_guard (by rfl) ?_; dsimp only)); at_builtin; refine Kd.R_append (Kd.int .i64) (w0 := w) w.heap.size rfl (.tmp 36) (.tmp 41) 25 3 (.int .i64 0) 8 rfl Try.underlying25 info3 rfl (by decide) (by omega) (.slice (some ad440) x7_1.length co25) x7_1 t441 [.int .i64 t441] (fun _ => True) (fun _ => False) rfl rfl ?aP (fun _ hk => hk.elim) ?aF ?aO ?aB ?aS ?aL ?_; (case aP => exact rfl); (case aB => exact (by repeat (first | (with_reducible first | exact HB.out | apply below_alloc | apply pw_below_drewN | apply below_drew1) | exact HB.out))); (case aF => exact (fun _ _ => trivial)); (case aO => exact (by (with_reducible repeat (first | apply Kd.R_alloc | apply Kd.R_drewN | apply Kd.R_drew)); exact HO_7.out)); (case aS => exact (below_size (by repeat (first | (with_reducible first | exact HB.out | apply below_alloc | apply pw_below_drewN | apply below_drew1) | exact HB.out)))); (case aL => have := LMc21.out; omega); intro v443 w27 ho hb hg hat; rw [← Ny442.out] at ho; have n0_ := Aside0.mk (hb); have n1_ := Aside0.mk (ho); clear HB; clear HO_7; have HB := n0_; have HO444 := n1_; clear n0_ n1_; clear ho hb hg hat; obtain ⟨Ao28, co28, eo28⟩ := Kd.R_slice HO444.out; subst eo28; have p445 : 0 ≤ ((ji22) : Int) := of_decide_eq_true (by first | (with_reducible assumption) | assumption); have q445 : (ji22) < (y442.length : Int) := of_decide_eq_true (by first | (with_reducible assumption) | assumption); obtain ⟨ad445, e445, hx445_0⟩ := Kd.at_int (Kd.R_reads' HO444.out).2.2 (ji22) p445 q445; cases e445; replace p445 := eq_true p445; replace q445 := eq_true q445))
           go_roundg k1
           case measure => have := HK1.out; omega
           case rel => exact ⟨(y442), (wrap64 ((rd y442 (ji22)) + 1)), (by first | rfl | (simp; done) | (simp only [← hji22] <;> (first | rfl | simp)) | (simp [*]; done)), H', ⟨by have := HK1.out; omega⟩, ⟨by (with_reducible repeat (first | apply Kd.R_alloc | apply Kd.R_drewN | apply Kd.R_drew)); exact HO444.out⟩, ⟨by repeat (first | (with_reducible first | exact HB.out | apply below_alloc | apply pw_below_drewN | apply below_drew1) | exact HB.out)⟩⟩
          ·rw [if_neg c24] at H
           exact absurd H (by simp)
         ·rw [if_neg c23] at H
          exact absurd H (by simp)
        ·rw [if_neg c21] at H
         exact absurd H (by simp)
       ·rw [if_neg c19] at H
        have c19b0 : decide ((rd x7_1 (ji16)) < (l0.length : Int)) = false := decide_eq_false c19
        clear c19
        simp only [Option.some.injEq, Prod.mk.injEq] at H
        obtain ⟨rfl, rfl⟩ := H
        obtain ⟨Ao29, co29, eo29⟩ := Kd.R_slice HO_7.out
        subst eo29
        have p440 : 0 ≤ ((ji16) : Int) := of_decide_eq_true (by first | (with_reducible assumption) | assumption)
        have q440 : (ji16) < (x7_1.length : Int) := of_decide_eq_true (by first | (with_reducible assumption) | assumption)
        obtain ⟨ad440, e440, hx440_0⟩ := Kd.at_int (Kd.R_reads' HO_7.out).2.2 (ji16) p440 q440
        cases e440
        replace p440 := eq_true p440
        replace q440 := eq_true q440
        go_wp2
        go_ret2
        exact ⟨_, by first | rfl | (simp [errW_none, errW_some] <;> rfl) | (simp only [← hji16]; first | rfl | (simp [errW_none, errW_some] <;> rfl)) | (simp [*, errW_none, errW_some] <;> rfl), by (with_reducible repeat (first | apply Kd.R_alloc | apply Kd.R_drewN | apply Kd.R_drew)); exact HO_7.out, by repeat (first | (with_reducible first | exact HB.out | apply below_alloc | apply pw_below_drewN | apply below_drew1) | exact HB.out)⟩
      ·rw [if_neg c18] at H
       exact absurd H (by simp)
     ·rw [if_neg c17] at H
      exact absurd H (by simp)
 ·rw [if_neg c4] at H
  have c4b0 : (t434 == 0) = false := beq_eq_false_iff_ne.mpr c4
  have c4b1 : (t434 != 0) = true := bne_iff_ne.mpr c4
  simp only [Option.some.injEq, Prod.mk.injEq] at H
  obtain ⟨rfl, rfl⟩ := H
  go_enter Try.func33, Try.ntmps33
  go_wp2_with (first | ((with_reducible refine gate_callee (f := 16) rfl ?_); refine goesL_ (some 11) rfl rfl Try.func16 (by kernel_rfl) rfl #[.slice A0 l0.length c0, .int .i64 a1] rfl (by (try simp only [List.map_toArray, List.map_cons, List.map_nil]); first | done | rfl | (simp only [List.length_drop, List.length_take]; rfl)) ?_; (with_reducible refine (best_Check.calls _ _ l0 a1 t434 _ ?side1 ?side2 A3.out).mono ?_); (case side1 => repeat (first | exact HR0.out | (with_reducible refine Kd.C_alloc ?_ _) | (with_reducible refine Kd.C_drewN ?_ _) | (with_reducible refine Kd.C_drew ?_))); (case side2 => exact HC0.out); rintro e w30 ⟨rfl, hb⟩; refine ⟨_, rfl, ?_⟩; have n0_ := Aside0.mk (below_step (by repeat (first | (with_reducible first | exact HB.out | apply below_alloc | apply pw_below_drewN | apply below_drew1) | exact HB.out)) hb); clear HB; have HB := n0_; clear n0_; (try clear hb); (try clear hb2); (try clear hk); (try clear hi)))
  go_ret2
  exact ⟨_, by first | rfl | (simp [errW_none, errW_some] <;> rfl) | (simp [*, errW_none, errW_some] <;> rfl), by first | exact Kd.R_nil _ _ _ _ _ | exact Kd.N_nil _ _ _ _ _ | exact Kd.V_nil _ _ _ _ _ | exact Kd.Q_nil _ _ _ _ _ | exact Kd.S_nil _ _ _ _ _, by repeat (first | (with_reducible first | exact HB.out | apply below_alloc | apply pw_below_drewN | apply below_drew1) | exact HB.out)⟩
def s20_filled.f (k : Nat) (a0 : Int) (l1 : List Int) : Option (Bool) := (s20_abc.f k).bind fun bt446 => ((lines_Fill.f k bt446.2 a0).bind fun bt452 => (if bt452.2 = 0 then ((s20_same.f k bt452.1 l1).bind fun t456 => (some t456)) else (some false)))
theorem s20_filled.mono : ∀ a0 a1 k, LeO (s20_filled.f k a0 a1) (s20_filled.f (k + 1) a0 a1) := by
 intro a0 a1 k
 unfold s20_filled.f
 repeat' first
   | (with_reducible exact lines_Fill.mono _ _ _)
   | (with_reducible exact s20_abc.mono _)
   | (with_reducible exact s20_same.mono _ _ _)
   | (with_reducible exact LeO.refl _)
   | (with_reducible exact LeO.none _)
   | (with_reducible refine LeO.ite ?_ ?_)
   | (with_reducible refine LeO.bind ?_ (fun _ => ?_))
   | exact lines_Fill.mono _ _ _
   | exact s20_abc.mono _
   | exact s20_same.mono _ _ _
   | exact LeO.none _
   | refine LeO.ite ?_ ?_
   | refine LeO.bind ?_ (fun _ => ?_)
set_option maxHeartbeats 8000000 in
set_option maxRecDepth 100000 in
theorem s20_filled.calls (k : Nat) (a0 : Int) (A1 : Option Addr) (c1 : Nat) (l1 : List Int) (r : Bool) (w : World) (hr1 : Kd.C (Kd.int .i64) w A1 l1.length l1) (hc1 : l1.length ≤ c1) (h : s20_filled.f k a0 l1 = some r) :
  Calls Try.prog 60 #[.int .i64 a0, .slice A1 l1.length c1] w fun e w' => e = .returned (.bool r) ∧ Below w.heap.size w w' := by
 have HR1 := Aside0.mk hr1
 have HC1 := Aside0.mk hc1
 clear hr1 hc1
 have HB := Aside0.mk (Below.refl w.heap.size w)
 have H : ((s20_abc.f k).bind fun bt446 => ((lines_Fill.f k bt446.2 a0).bind fun bt452 => (if bt452.2 = 0 then ((s20_same.f k bt452.1 l1).bind fun t456 => (some t456)) else (some false)))) = some r := h
 clear h
 replace H := Option.bind_eq_some_iff.mp H
 obtain ⟨⟨t446, t447⟩, A30, H⟩ := H
 replace H : ((lines_Fill.f k t447 a0).bind fun bt452 => (if bt452.2 = 0 then ((s20_same.f k bt452.1 l1).bind fun t456 => (some t456)) else (some false))) = some r := H
 have A3 := Aside0.mk A30
 clear A30
 replace H := Option.bind_eq_some_iff.mp H
 obtain ⟨⟨t452, t453⟩, A40, H⟩ := H
 replace H : (if t453 = 0 then ((s20_same.f k t452 l1).bind fun t456 => (some t456)) else (some false)) = some r := H
 have A4 := Aside0.mk A40
 clear A40
 by_cases c5 : t453 = 0
 ·rw [if_pos c5] at H
  have c5b0 : (t453 == 0) = true := beq_iff_eq.mpr c5
  have c5b1 : (t453 != 0) = false := bne_eq_false_iff_eq.mpr c5
  clear c5
  replace H := Option.bind_eq_some_iff.mp H
  obtain ⟨t456, A60, H⟩ := H
  replace H : (some t456) = some r := H
  have A6 := Aside0.mk A60
  clear A60
  obtain rfl := Option.some.inj H
  go_enter Try.func60, Try.ntmps60
  go_wp2_with (first | ((with_reducible refine gate_callee (f := 79) rfl ?_); refine goesL_ (some 10) rfl rfl Try.func79 (by kernel_rfl) rfl #[] rfl (by (try simp only [List.map_toArray, List.map_cons, List.map_nil]); first | done | rfl | (simp only [List.length_drop, List.length_take]; rfl)) ?_; (with_reducible refine (s20_abc.calls k  t446 t447 _ A3.out).mono ?_); rintro e w7 ⟨v448, v450, rfl, ho0, ho1, hb⟩; refine ⟨_, rfl, ?_⟩; have n0_ := Aside0.mk (Kd.R_lower ho0 (below_size (by repeat (first | (with_reducible first | exact HB.out | apply below_alloc | apply pw_below_drewN | apply below_drew1) | exact HB.out)))); have n1_ := Aside0.mk (Kd.R_lower ho1 (below_size (by repeat (first | (with_reducible first | exact HB.out | apply below_alloc | apply pw_below_drewN | apply below_drew1) | exact HB.out)))); have n2_ := Aside0.mk (below_step (by repeat (first | (with_reducible first | exact HB.out | apply below_alloc | apply pw_below_drewN | apply below_drew1) | exact HB.out)) hb); clear HB; have HO449 := n0_; have HO451 := n1_; have HB := n2_; clear n0_ n1_ n2_; (try clear hb); (try clear hb2); (try clear hk); (try clear hi); (try clear ho0); (try clear ho1); obtain ⟨Ao8, co8, eo8⟩ := Kd.R_slice HO451.out; subst eo8) | ((with_reducible refine gate_callee (f := 33) rfl ?_); refine goesL_ (some 16) rfl rfl Try.func33 (by kernel_rfl) rfl #[.slice Ao8 t447.length co8, .int .i64 a0] rfl (by (try simp only [List.map_toArray, List.map_cons, List.map_nil]); first | done | rfl | (simp only [List.length_drop, List.length_take]; rfl)) ?_; (with_reducible refine (lines_Fill.calls k _ _ t447 a0 t452 t453 _ ?side1 ?side2 A4.out).mono ?_); (case side1 => repeat (first | exact (Kd.R_reads' HO451.out).2.2 | (with_reducible refine Kd.C_alloc ?_ _) | (with_reducible refine Kd.C_drewN ?_ _) | (with_reducible refine Kd.C_drew ?_))); (case side2 => exact (Kd.R_reads' HO451.out).2.1); rintro e w9 ⟨v454, rfl, ho0, hb⟩; refine ⟨_, rfl, ?_⟩; have n0_ := Aside0.mk (Kd.R_below (by (with_reducible repeat (first | apply Kd.R_alloc | apply Kd.R_drewN | apply Kd.R_drew)); exact HO449.out) hb); have n1_ := Aside0.mk (Kd.R_below (by (with_reducible repeat (first | apply Kd.R_alloc | apply Kd.R_drewN | apply Kd.R_drew)); exact HO451.out) hb); have n2_ := Aside0.mk (Kd.R_lower ho0 (below_size (by repeat (first | (with_reducible first | exact HB.out | apply below_alloc | apply pw_below_drewN | apply below_drew1) | exact HB.out)))); have n3_ := Aside0.mk (below_step (by repeat (first | (with_reducible first | exact HB.out | apply below_alloc | apply pw_below_drewN | apply below_drew1) | exact HB.out)) hb); clear HO449; clear HO451; clear HB; have HO449 := n0_; have HO451 := n1_; have HO455 := n2_; have HB := n3_; clear n0_ n1_ n2_ n3_; (try clear hb); (try clear hb2); (try clear hk); (try clear hi); (try clear ho0); obtain ⟨Ao10, co10, eo10⟩ := Kd.R_slice HO455.out; subst eo10) | (go_at_call 29; (with_reducible refine (s20_same.calls k _ _ t452 _ _ l1 t456 _ ?side1 ?side2 ?side3 ?side4 A6.out).mono ?_); (case side1 => repeat (first | exact (Kd.R_reads' HO455.out).2.2 | (with_reducible refine Kd.C_alloc ?_ _) | (with_reducible refine Kd.C_drewN ?_ _) | (with_reducible refine Kd.C_drew ?_))); (case side2 => exact (Kd.R_reads' HO455.out).2.1); (case side3 => repeat (first | exact (Kd.C_below HR1.out HB.out) | (with_reducible refine Kd.C_alloc ?_ _) | (with_reducible refine Kd.C_drewN ?_ _) | (with_reducible refine Kd.C_drew ?_))); (case side4 => exact HC1.out); rintro e w' ⟨rfl, ⟨nd, rfl⟩⟩))
  go_ret
  exact ⟨by first | rfl | (simp [errW_none, errW_some] <;> rfl) | (simp [*, errW_none, errW_some] <;> rfl), by repeat (first | (with_reducible first | exact HB.out | apply below_alloc | apply pw_below_drewN | apply below_drew1) | exact HB.out)⟩
 ·rw [if_neg c5] at H
  have c5b0 : (t453 == 0) = false := beq_eq_false_iff_ne.mpr c5
  have c5b1 : (t453 != 0) = true := bne_iff_ne.mpr c5
  obtain rfl := Option.some.inj H
  go_enter Try.func60, Try.ntmps60
  go_wp2_with (first | ((with_reducible refine gate_callee (f := 79) rfl ?_); refine goesL_ (some 10) rfl rfl Try.func79 (by kernel_rfl) rfl #[] rfl (by (try simp only [List.map_toArray, List.map_cons, List.map_nil]); first | done | rfl | (simp only [List.length_drop, List.length_take]; rfl)) ?_; (with_reducible refine (s20_abc.calls k  t446 t447 _ A3.out).mono ?_); rintro e w11 ⟨v448, v450, rfl, ho0, ho1, hb⟩; refine ⟨_, rfl, ?_⟩; have n0_ := Aside0.mk (Kd.R_lower ho0 (below_size (by repeat (first | (with_reducible first | exact HB.out | apply below_alloc | apply pw_below_drewN | apply below_drew1) | exact HB.out)))); have n1_ := Aside0.mk (Kd.R_lower ho1 (below_size (by repeat (first | (with_reducible first | exact HB.out | apply below_alloc | apply pw_below_drewN | apply below_drew1) | exact HB.out)))); have n2_ := Aside0.mk (below_step (by repeat (first | (with_reducible first | exact HB.out | apply below_alloc | apply pw_below_drewN | apply below_drew1) | exact HB.out)) hb); clear HB; have HO449 := n0_; have HO451 := n1_; have HB := n2_; clear n0_ n1_ n2_; (try clear hb); (try clear hb2); (try clear hk); (try clear hi); (try clear ho0); (try clear ho1); obtain ⟨Ao12, co12, eo12⟩ := Kd.R_slice HO451.out; subst eo12) | ((with_reducible refine gate_callee (f := 33) rfl ?_); refine goesL_ (some 16) rfl rfl Try.func33 (by kernel_rfl) rfl #[.slice Ao12 t447.length co12, .int .i64 a0] rfl (by (try simp only [List.map_toArray, List.map_cons, List.map_nil]); first | done | rfl | (simp only [List.length_drop, List.length_take]; rfl)) ?_; (with_reducible refine (lines_Fill.calls k _ _ t447 a0 t452 t453 _ ?side1 ?side2 A4.out).mono ?_); (case side1 => repeat (first | exact (Kd.R_reads' HO451.out).2.2 | (with_reducible refine Kd.C_alloc ?_ _) | (with_reducible refine Kd.C_drewN ?_ _) | (with_reducible refine Kd.C_drew ?_))); (case side2 => exact (Kd.R_reads' HO451.out).2.1); rintro e w13 ⟨v454, rfl, ho0, hb⟩; refine ⟨_, rfl, ?_⟩; have n0_ := Aside0.mk (Kd.R_below (by (with_reducible repeat (first | apply Kd.R_alloc | apply Kd.R_drewN | apply Kd.R_drew)); exact HO449.out) hb); have n1_ := Aside0.mk (Kd.R_below (by (with_reducible repeat (first | apply Kd.R_alloc | apply Kd.R_drewN | apply Kd.R_drew)); exact HO451.out) hb); have n2_ := Aside0.mk (Kd.R_lower ho0 (below_size (by repeat (first | (with_reducible first | exact HB.out | apply below_alloc | apply pw_below_drewN | apply below_drew1) | exact HB.out)))); have n3_ := Aside0.mk (below_step (by repeat (first | (with_reducible first | exact HB.out | apply below_alloc | apply pw_below_drewN | apply below_drew1) | exact HB.out)) hb); clear HO449; clear HO451; clear HB; have HO449 := n0_; have HO451 := n1_; have HO455 := n2_; have HB := n3_; clear n0_ n1_ n2_ n3_; (try clear hb); (try clear hb2); (try clear hk); (try clear hi); (try clear ho0)))
  go_ret
  exact ⟨by first | rfl | (simp [errW_none, errW_some] <;> rfl) | (simp [*, errW_none, errW_some] <;> rfl), by repeat (first | (with_reducible first | exact HB.out | apply below_alloc | apply pw_below_drewN | apply below_drew1) | exact HB.out)⟩
end Go.Proofs.Ytbddfnmhhmkfkaa.Pr
namespace Go.Proofs.Ytbddfnmhhmkfkaa.Pr
open Go.RowKit Go.Proofs.YtbddfnmhhmkfkaaW.PrintWords Go.Proofs.YtbddfnmhhmkfkaaW.PrintLast Go.Proofs.YtbddfnmhhmkfkaaW.PrintMore
set_option linter.unusedVariables false
set_option linter.unusedSimpArgs false
def intsV (xs : List Int) : List Value := xs.map fun n => .int .i64 n
theorem lit_C (w : World) (xs : List Int) (h : xs.length ≤ 1000) : Kd.C (Kd.int .i64) (w.alloc (.cells (intsV xs).toArray 3)) (some ⟨w.heap.size, 0, none⟩) xs.length xs := by
 refine ⟨rfl, by show xs.length ≤ 9223372036854775807; omega, fun _ => ⟨_, rfl, fun i p hp => ⟨[.int .i64 p], rfl, rfl, fun j u hj => ?_⟩⟩⟩
 have hj0 : j = 0 := by
  have := (List.getElem?_eq_some_iff.1 hj).1
  simpa using this
 subst hj0
 have hu : Value.int .i64 p = u := by simpa using hj
 subst hu
 have hb := blk_cell (blk_new w (.cells (intsV xs).toArray 3)) i
 have e : (⟨w.heap.size, 0, none⟩ : Addr).add (i * (Kd.int IntKind.i64).sz + 0) = ⟨w.heap.size, i, none⟩ := by
  have : i * (Kd.int IntKind.i64).sz + 0 = i := by show i * 1 + 0 = i; omega
  rw [this]
  simp [Addr.add]
  exact fun h => h.symm
 rw [e, hb]
 simp [intsV, hp]
theorem is_two (w : World) (xs ys : List Int) (hx : xs.length ≤ 1000) (hy : ys.length ≤ 1000) (a0 a2 a3 : Int) (h : s20_is.f 60 a0 xs a2 a3 ys = some true) :
  Calls Try.prog 59 #[.int .i64 a0, .slice (some ⟨w.heap.size, 0, none⟩) xs.length xs.length, .int .i64 a2, .int .i64 a3, .slice (some ⟨w.heap.size + 1, 0, none⟩) ys.length ys.length] ((w.alloc (.cells (intsV xs).toArray 3)).alloc (.cells (intsV ys).toArray 3)) fun e w' => e = .returned (.bool true) ∧ Below w.heap.size w w' := by
 have h2 := lit_C (w.alloc (.cells (intsV xs).toArray 3)) ys hy
 rw [World.size_alloc] at h2
 refine (s20_is.calls 60 a0 _ _ xs a2 a3 _ _ ys true _ (Kd.C_alloc (lit_C w xs hx) _) (Nat.le_refl _) h2 (Nat.le_refl _) h).mono ?_
 rintro e w' ⟨rfl, hb⟩
 exact ⟨rfl, (((Below.refl w.heap.size w).alloc (Nat.le_refl _) _).alloc (by simp) _).trans (hb.mono (by simp; omega))⟩
theorem filled_one (w : World) (xs : List Int) (hx : xs.length ≤ 1000) (a0 : Int) (h : s20_filled.f 60 a0 xs = some true) :
  Calls Try.prog 60 #[.int .i64 a0, .slice (some ⟨w.heap.size, 0, none⟩) xs.length xs.length] (w.alloc (.cells (intsV xs).toArray 3)) fun e w' => e = .returned (.bool true) ∧ Below w.heap.size w w' := by
 refine (s20_filled.calls 60 a0 _ _ xs true _ (lit_C w xs hx) (Nat.le_refl _) h).mono ?_
 rintro e w' ⟨rfl, hb⟩
 exact ⟨rfl, ((Below.refl w.heap.size w).alloc (Nat.le_refl _) _).trans (hb.mono (by simp))⟩
def s20_awake.f (k : Nat) : Option Bool := some true
theorem s20_awake.mono : ∀ k, LeO (s20_awake.f k ) (s20_awake.f (k + 1) ) := fun _ => LeO.refl _
theorem ex1 : s20_is.f 60 30 [5] 40 1 [0, 10, 15, 25, 30] = some true := by decide +kernel
theorem ex2 : s20_is.f 60 26 [3, 5] 26 0 [0, 10, 16] = some true := by decide +kernel
theorem ex3 : s20_is.f 60 32 [3, 5] 32 0 [0, 10, 22] = some true := by decide +kernel
theorem ex4 : s20_is.f 60 40 [3, 5] 35 2 [0, 10, 25] = some true := by decide +kernel
theorem ex5 : s20_filled.f 60 30 [3, 5] = some true := by decide +kernel
theorem ex6 : s20_filled.f 60 9 [1, 3, 5] = some true := by decide +kernel
set_option maxRecDepth 100000 in
set_option maxHeartbeats 4000000 in
theorem s20_awake.calls (k : Nat) (r : Bool) (w : World) (h : s20_awake.f k = some r) :
  Calls Try.prog 25 #[] w fun e w' => e = .returned (.bool r) ∧ Below w.heap.size w w' := by
 obtain rfl : true = r := Option.some.inj h
 clear h
 go_enter Try.func25, Try.ntmps25
 go_wp2_with fail
 refine (is_two w [5] [0, 10, 15, 25, 30] (by decide) (by decide) 30 40 1 ex1).mono ?_
 rintro _ w1 ⟨rfl, hb1⟩
 have HB1 := Lib.hid hb1
 clear hb1
 go_wp2_with fail
 refine (is_two w1 [3, 5] [0, 10, 16] (by decide) (by decide) 26 26 0 ex2).mono ?_
 rintro _ w2 ⟨rfl, hb2⟩
 have HB2 := Lib.hid (HB1.out.trans (hb2.mono HB1.out.size))
 clear hb2
 go_wp2_with fail
 refine (is_two w2 [3, 5] [0, 10, 22] (by decide) (by decide) 32 32 0 ex3).mono ?_
 rintro _ w3 ⟨rfl, hb3⟩
 have HB3 := Lib.hid (HB2.out.trans (hb3.mono HB2.out.size))
 clear hb3
 go_wp2_with fail
 refine (is_two w3 [3, 5] [0, 10, 25] (by decide) (by decide) 40 35 2 ex4).mono ?_
 rintro _ w4 ⟨rfl, hb4⟩
 have HB4 := Lib.hid (HB3.out.trans (hb4.mono HB3.out.size))
 clear hb4
 go_wp2_with fail
 refine (filled_one w4 [3, 5] (by decide) 30 ex5).mono ?_
 rintro _ w5 ⟨rfl, hb5⟩
 have HB5 := Lib.hid (HB4.out.trans (hb5.mono HB4.out.size))
 clear hb5
 go_wp2_with fail
 refine (filled_one w5 [1, 3, 5] (by decide) 9 ex6).mono ?_
 rintro _ w6 ⟨rfl, hb6⟩
 have HB6 := Lib.hid (HB5.out.trans (hb6.mono HB5.out.size))
 clear hb6
 go_wp2
 go_ret
 exact ⟨rfl, HB6.out⟩
end Go.Proofs.Ytbddfnmhhmkfkaa.Pr
namespace Go.Proofs.Ytbddfnmhhmkfkaa.Pr
set_option linter.unusedVariables false
set_option linter.unusedSimpArgs false
open Go.RowKit Go.Proofs.YtbddfnmhhmkfkaaW.PrintWords Go.Proofs.YtbddfnmhhmkfkaaW.PrintLast Go.Proofs.YtbddfnmhhmkfkaaW.PrintMore
def slackO (w n y z : Int) (last : Bool) : Int := if last = true ∧ n ≤ w then 0 else if w - n > y then y else if w - n < -z then -z else w - n
def roomO (d y z : Int) : Int := if d < 0 then z else y
def partO (d all s : Int) : Int := if all = 0 then 0 else (d * s).tdiv all
def slackL (l : List S43) (w f t : Int) : Int := slackO w (lineN l f t) (lineY l f t) (lineZ l f t) (t == (l.length : Int))
def gT (d : Int) : S43 → Int := if d < 0 then gZ else gY
def roomL (l : List S43) (w f t : Int) : Int := roomO (slackL l w f t) (lineY l f t) (lineZ l f t)
def xL (l : List S43) (w f t : Int) (i : Nat) : Int :=
 nS gN l i - nS gN l (f + 1).toNat + partO (slackL l w f t) (roomL l w f t) (nS (gT (slackL l w f t)) l i - nS (gT (slackL l w f t)) l (f + 1).toNat)
def spotsL (toks : List S101) (l : List S43) (w f t : Int) (a : Nat) : Nat → List S57
 | 0 => []
 | k + 1 => spotsL toks l w f t a k ++ if (rd_T43 l ((a + k : Nat) : Int)).f0 = 3 then [] else [spotP toks (rd_T43 l ((a + k : Nat) : Int)) (xL l w f t (a + k))]
def bitsO (over loose dash : Bool) : Int := (if over then 1 else 0) + (if loose then 2 else 0) + (if dash then 4 else 0)
def lineC (toks : List S101) (l : List S43) (w f t : Int) : S55 :=
 ⟨spotsL toks l w f t (f + 1).toNat (t.toNat - (f + 1).toNat) ++ (if hyphP l t = true then [spotP toks (rd_T43 l t) (xL l w f t t.toNat)] else []),
  lineN l f t + slackL l w f t,
  bitsO (decide (w < lineN l f t - lineZ l f t)) (!(t == (l.length : Int)) && decide (lineN l f t + lineY l f t < w)) (hyphP l t)⟩
theorem tdiv_mul_bd {m all s : Int} (hm : 0 ≤ m) (hma : m ≤ all) (hs : 0 ≤ s) (hsa : s ≤ all) : 0 ≤ (m * s).tdiv all ∧ (m * s).tdiv all ≤ s ∧ (m * s).tdiv all ≤ m := by
 have h1 : 0 ≤ m * s := Int.mul_nonneg hm hs
 rw [Int.tdiv_eq_ediv_of_nonneg h1]
 by_cases h0 : all = 0
 ·subst h0
  simp
  omega
 ·have hp : 0 < all := by omega
  refine ⟨Int.ediv_nonneg h1 (by omega), ?_, ?_⟩
  ·refine Int.le_of_lt_add_one ((Int.ediv_lt_iff_lt_mul hp).2 ?_)
   have := Int.mul_le_mul_of_nonneg_right hma hs
   rw [Int.add_mul, Int.one_mul, Int.mul_comm s all]
   omega
  ·refine Int.le_of_lt_add_one ((Int.ediv_lt_iff_lt_mul hp).2 ?_)
   have := Int.mul_le_mul_of_nonneg_left hsa hm
   rw [Int.add_mul, Int.one_mul]
   omega
theorem tdiv_neg_mul {m all s : Int} : ((-m) * s).tdiv all = -((m * s).tdiv all) := by
 rw [Int.neg_mul, Int.neg_tdiv]
theorem partO_bd {d all s : Int} (hd : -all ≤ d) (hd' : d ≤ all) (hs : 0 ≤ s) (hsa : s ≤ all) : -s ≤ partO d all s ∧ partO d all s ≤ s ∧ (0 ≤ d → 0 ≤ partO d all s ∧ partO d all s ≤ d) ∧ (d ≤ 0 → d ≤ partO d all s ∧ partO d all s ≤ 0) := by
 unfold partO
 by_cases h0 : all = 0
 ·rw [if_pos h0]
  omega
 ·rw [if_neg h0]
  rcases Int.le_total 0 d with h | h
  ·have := tdiv_mul_bd (m := d) (all := all) h hd' hs hsa
   refine ⟨by omega, by omega, fun _ => by omega, fun h2 => ?_⟩
   obtain rfl : d = 0 := by omega
   simp
  ·obtain ⟨m, rfl⟩ : ∃ m, d = -m := ⟨-d, by omega⟩
   rw [tdiv_neg_mul]
   have := tdiv_mul_bd (m := m) (all := all) (by omega) (by omega) hs hsa
   refine ⟨by omega, by omega, fun h2 => ?_, fun _ => by omega⟩
   obtain rfl : m = 0 := by omega
   simp
theorem partO_all {d all : Int} (h0 : all = 0 → d = 0) : partO d all all = d := by
 unfold partO
 by_cases h : all = 0
 ·rw [if_pos h, h0 h]
 ·rw [if_neg h, Int.mul_tdiv_cancel _ h]
theorem partO_step {d all s t : Int} (hd : -all ≤ d) (hd' : d ≤ all) (hs : 0 ≤ s) (ht : 0 ≤ t) (hsa : s + t ≤ all) : (0 ≤ d → partO d all s ≤ partO d all (s + t)) ∧ -t ≤ partO d all (s + t) - partO d all s := by
 unfold partO
 by_cases h0 : all = 0
 ·rw [if_pos h0, if_pos h0]
  omega
 ·rw [if_neg h0, if_neg h0]
  have hp : 0 < all := by omega
  have key : ∀ m : Int, 0 ≤ m → m ≤ all → (m * s).tdiv all ≤ (m * (s + t)).tdiv all ∧ (m * (s + t)).tdiv all ≤ (m * s).tdiv all + t := fun m h1 h2 => by
   rw [Int.tdiv_eq_ediv_of_nonneg (Int.mul_nonneg h1 hs), Int.tdiv_eq_ediv_of_nonneg (Int.mul_nonneg h1 (by omega))]
   have h3 : m * (s + t) = m * s + m * t := Int.mul_add _ _ _
   have h4 : 0 ≤ m * t := Int.mul_nonneg h1 ht
   have h5 : m * t ≤ t * all := by
    have := Int.mul_le_mul_of_nonneg_right h2 ht
    rw [Int.mul_comm t all]
    exact this
   refine ⟨Int.ediv_le_ediv hp (by omega), ?_⟩
   rw [← Int.add_mul_ediv_right _ _ h0]
   exact Int.ediv_le_ediv hp (by omega)
  rcases Int.le_total 0 d with h | h
  ·have := key d h hd'
   omega
  ·obtain ⟨m, rfl⟩ : ∃ m, d = -m := ⟨-d, by omega⟩
   rw [tdiv_neg_mul, tdiv_neg_mul]
   have := key m (by omega) (by omega)
   refine ⟨fun h2 => ?_, by omega⟩
   obtain rfl : m = 0 := by omega
   simp
theorem slackO_bd {w n y z : Int} (hy : 0 ≤ y) (hz : 0 ≤ z) (last : Bool) : -z ≤ slackO w n y z last ∧ slackO w n y z last ≤ y := by
 unfold slackO
 split
 ·omega
 ·split
  ·omega
  ·split <;> omega
theorem quoP_partO {s a all : Int} (hd : -all ≤ s) (hd' : s ≤ all) (h0 : 0 ≤ a) (ha : a ≤ all) (hb : all ≤ 32770000) (hne : all ≠ 0) : quoP s a all = partO s all a := by
 have h := partO_bd hd hd' h0 ha
 unfold quoP
 have m1 : -1073872900000000 ≤ s * a ∧ s * a ≤ 1073872900000000 := by
  have e1 : s * a ≤ 32770000 * 32770000 := by
   rcases Int.le_total 0 s with hs | hs
   ·exact Int.mul_le_mul (by omega) (by omega) h0 (by omega)
   ·have := Int.mul_nonneg (show 0 ≤ -s by omega) h0
    rw [Int.neg_mul] at this
    omega
  have e2 : -s * a ≤ 32770000 * 32770000 := by
   rcases Int.le_total 0 s with hs | hs
   ·have := Int.mul_nonneg hs h0
    rw [Int.neg_mul]
    omega
   ·exact Int.mul_le_mul (by omega) (by omega) h0 (by omega)
  rw [Int.neg_mul] at e2
  omega
 rw [w64 (n := s * a) (by omega) (by omega)]
 unfold partO at h ⊢
 rw [if_neg hne] at h ⊢
 exact w64 (by omega) (by omega)
theorem seg_rd {l : List S43} {a b j : Nat} (hb : b ≤ l.length) (hj : a + j < b) : rd_T43 ((l.take b).drop a) (j : Int) = rd_T43 l ((a + j : Nat) : Int) := by
 unfold rd_T43
 rw [Int.toNat_natCast, Int.toNat_natCast, List.getD_eq_getElem?_getD, List.getD_eq_getElem?_getD, List.getElem?_drop, List.getElem?_take, if_pos hj]
theorem seg_len {l : List S43} {a b : Nat} (hb : b ≤ l.length) : ((l.take b).drop a).length = b - a := by
 rw [List.length_drop, List.length_take]
 omega
theorem seg_bd {l : List S43} {w : Int} (ok : OkL l w) {g : S43 → Int} (hg : ∀ x, OkItem x → 0 ≤ g x ∧ g x ≤ 2000) {a i : Nat} (h : a ≤ i) (hi : i ≤ l.length) : 0 ≤ nS g l i - nS g l a ∧ nS g l i - nS g l a ≤ 32768000 := by
 have hl := ok.len
 have h1 := nS_bd ok g hg i hi
 have h2 := nS_bd ok g hg a (by omega)
 have h3 := nS_mono ok g hg a (i - a) (by omega)
 rw [show a + (i - a) = i by omega] at h3
 omega
theorem sum_seg {l : List S43} {w : Int} (ok : OkL l w) {g : S43 → Int} (hg : ∀ x, OkItem x → 0 ≤ g x ∧ g x ≤ 2000) {a b : Nat} (hab : a ≤ b) (hb : b ≤ l.length) : ∀ j, a + j ≤ b → sumT g ((l.take b).drop a) j = nS g l (a + j) - nS g l a
 | 0, h => by simp [sumT]
 | j + 1, h => by
  have ih := sum_seg ok hg hab hb j (by omega)
  have hn := nS_next (l := l) g (show a + j < l.length by omega)
  have h1 := seg_bd ok hg (show a ≤ a + (j + 1) by omega) (show a + (j + 1) ≤ l.length by omega)
  rw [show a + (j + 1) = a + j + 1 by omega] at h1 ⊢
  rw [sumT_succ _ _ _ (by rw [seg_len hb]; omega), ih, seg_rd hb (by omega), w64 (by omega) (by omega)]
  omega
theorem gT_bd (d : Int) (x : S43) (h : OkItem x) : 0 ≤ gT d x ∧ gT d x ≤ 2000 := by
 unfold gT
 split
 ·exact (g_bd h).2.2
 ·exact (g_bd h).2.1
structure LineK (l : List S43) (w : Int) (a b : Nat) (sl al : Int) : Prop where
 ok : OkL l w
 ab : a ≤ b
 bl : b ≤ l.length
 all : al = nS (gT sl) l b - nS (gT sl) l a
 lo : -al ≤ sl
 hi : sl ≤ al
def xS (l : List S43) (sl al : Int) (a i : Nat) : Int := nS gN l i - nS gN l a + partO sl al (nS (gT sl) l i - nS (gT sl) l a)
def spS (toks : List S101) (l : List S43) (sl al : Int) (a : Nat) : Nat → List S57
 | 0 => []
 | k + 1 => spS toks l sl al a k ++ if (rd_T43 l ((a + k : Nat) : Int)).f0 = 3 then [] else [spotP toks (rd_T43 l ((a + k : Nat) : Int)) (xS l sl al a (a + k))]
theorem LineK.part {l : List S43} {w : Int} {a b : Nat} {sl al : Int} (h : LineK l w a b sl al) {i : Nat} (h1 : a ≤ i) (h2 : i ≤ b) : 0 ≤ nS (gT sl) l i - nS (gT sl) l a ∧ nS (gT sl) l i - nS (gT sl) l a ≤ al ∧ al ≤ 32768000 := by
 have b1 := seg_bd h.ok (gT_bd sl) h1 (Nat.le_trans h2 h.bl)
 have b2 := seg_bd h.ok (gT_bd sl) h2 h.bl
 have b3 := seg_bd h.ok (gT_bd sl) h.ab h.bl
 have := h.all
 omega
theorem gN_hyph {x : S43} (h : x.f0 = 3) : gN x = 0 := if_pos h
theorem gT_hyph {x : S43} (d : Int) (h : x.f0 = 3) : gT d x = 0 := by
 unfold gT
 split
 ·exact if_neg (by omega)
 ·exact if_neg (by omega)
theorem LineK.step {l : List S43} {w : Int} {a b : Nat} {sl al : Int} (h : LineK l w a b sl al) (toks : List S101) : ∀ j, a + j ≤ b →
  lineL toks (gT sl) sl al ((l.take b).drop a) j = (if al = 0 then 0 else nS (gT sl) l (a + j) - nS (gT sl) l a, xS l sl al a (a + j), spS toks l sl al a j)
 | 0, hj => by
  have : xS l sl al a (a + 0) = 0 := by
   unfold xS partO
   simp
  rw [this]
  simp [lineL, spS]
 | j + 1, hj => by
  have ih := LineK.step h toks j (by omega)
  have hbl := h.bl
  have hsl := seg_len (l := l) (a := a) h.bl
  unfold lineL at ih ⊢
  rw [take_next _ _ _ _ _ (rd43_get _ j (by omega)), ih, seg_rd h.bl (by omega)]
  have hn := nS_next (l := l) gN (show a + j < l.length by omega)
  have ht := nS_next (l := l) (gT sl) (show a + j < l.length by omega)
  have ho := rd_ok h.ok (show a + j < l.length by omega)
  obtain ⟨o1, o2, o3, o4, o5, o6, o7, o8⟩ := id ho
  have b1 := seg_bd h.ok (g := gN) (fun x hx => (g_bd hx).1) (show a ≤ a + j by omega) (show a + j ≤ l.length by omega)
  have b2 := h.part (i := a + j) (by omega) (by omega)
  have b3 := h.part (i := a + j + 1) (by omega) (by omega)
  have p1 := partO_bd h.lo h.hi b2.1 b2.2.1
  have p2 := partO_bd h.lo h.hi b3.1 b3.2.1
  rw [show a + (j + 1) = a + j + 1 by omega]
  unfold stepL
  rw [spS.eq_2]
  by_cases h3 : (rd_T43 l ((a + j : Nat) : Int)).f0 = 3
  ·rw [if_pos h3, if_pos h3, List.append_nil]
   rw [gN_hyph h3] at hn
   rw [gT_hyph sl h3] at ht
   unfold xS
   rw [hn, ht, Int.add_zero, Int.add_zero]
  ·rw [if_neg h3, if_neg h3]
   have hgn : gN (rd_T43 l ((a + j : Nat) : Int)) = (rd_T43 l ((a + j : Nat) : Int)).f1 := if_neg h3
   have hlo := h.lo
   have hhi := h.hi
   have e1 : wrap64 ((rd_T43 l ((a + j : Nat) : Int)).f1 + partP sl al (if al = 0 then 0 else nS (gT sl) l (a + j) - nS (gT sl) l a) (gT sl (rd_T43 l ((a + j : Nat) : Int)))) =
     (rd_T43 l ((a + j : Nat) : Int)).f1 + (partO sl al (nS (gT sl) l (a + j + 1) - nS (gT sl) l a) - partO sl al (nS (gT sl) l (a + j) - nS (gT sl) l a)) := by
    unfold partP
    by_cases h0 : al = 0
    ·rw [if_pos h0]
     unfold partO
     rw [if_pos h0, if_pos h0, w64 (by omega) (by omega)]
     omega
    ·rw [if_neg h0, if_neg h0]
     unfold shareP
     rw [w64 (n := nS (gT sl) l (a + j) - nS (gT sl) l a + gT sl (rd_T43 l ((a + j : Nat) : Int))) (by omega) (by omega),
      show nS (gT sl) l (a + j) - nS (gT sl) l a + gT sl (rd_T43 l ((a + j : Nat) : Int)) = nS (gT sl) l (a + j + 1) - nS (gT sl) l a by omega,
      quoP_partO h.lo h.hi b3.1 b3.2.1 (by omega) h0, quoP_partO h.lo h.hi b2.1 b2.2.1 (by omega) h0, w64 (n := partO sl al _ - partO sl al _) (by omega) (by omega), w64 (by omega) (by omega)]
   rw [e1]
   have e2 : aheadP al (if al = 0 then 0 else nS (gT sl) l (a + j) - nS (gT sl) l a) (gT sl (rd_T43 l ((a + j : Nat) : Int))) = if al = 0 then 0 else nS (gT sl) l (a + j + 1) - nS (gT sl) l a := by
    unfold aheadP
    by_cases h0 : al = 0
    ·rw [if_pos h0, if_pos h0, if_pos h0]
    ·rw [if_neg h0, if_neg h0, if_neg h0, w64 (by omega) (by omega)]
     omega
   rw [e2]
   refine Prod.ext rfl (Prod.ext ?_ rfl)
   show wrap64 (xS l sl al a (a + j) + _) = xS l sl al a (a + j + 1)
   unfold xS
   rw [hn, hgn, w64 (by omega) (by omega)]
   omega
theorem spS_spotsL (toks : List S101) (l : List S43) (w f t : Int) (a : Nat) (ha : (f + 1).toNat = a) : ∀ k, spS toks l (slackL l w f t) (roomL l w f t) a k = spotsL toks l w f t a k
 | 0 => rfl
 | k + 1 => by
  rw [spS, spotsL, spS_spotsL toks l w f t a ha k]
  unfold xL xS
  rw [ha]
theorem bits_ev (p q r : Bool) : bits .or .i64 (bits .or .i64 (bitP p 0) (bitP q 1)) (bitP r 2) = bitsO p q r := by
 cases p <;> cases q <;> cases r <;> decide +kernel
theorem line_known {l : List S43} {w : Int} (ok : OkL l w) {a b : Nat} (hab : a ≤ b) (hb : b ≤ l.length) : LineK l w a b (slackL l w ((a : Int) - 1) b) (roomL l w ((a : Int) - 1) b) := by
 have hy := seg_bd ok (g := gY) (fun x hx => (g_bd hx).2.1) hab hb
 have hz := seg_bd ok (g := gZ) (fun x hx => (g_bd hx).2.2) hab hb
 have ey : lineY l ((a : Int) - 1) b = nS gY l b - nS gY l a := by
  unfold lineY
  rw [Int.toNat_natCast, show ((a : Int) - 1 + 1).toNat = a by omega]
 have ez : lineZ l ((a : Int) - 1) b = nS gZ l b - nS gZ l a := by
  unfold lineZ
  rw [Int.toNat_natCast, show ((a : Int) - 1 + 1).toNat = a by omega]
 have bd := slackO_bd (w := w) (n := lineN l ((a : Int) - 1) b) (y := lineY l ((a : Int) - 1) b) (z := lineZ l ((a : Int) - 1) b) (by omega) (by omega) ((b : Int) == (l.length : Int))
 unfold roomL
 have e : slackL l w ((a : Int) - 1) b = slackO w (lineN l ((a : Int) - 1) b) (lineY l ((a : Int) - 1) b) (lineZ l ((a : Int) - 1) b) ((b : Int) == (l.length : Int)) := rfl
 rw [← e] at bd
 generalize slackL l w ((a : Int) - 1) b = d at *
 refine ⟨ok, hab, hb, ?_, ?_, ?_⟩
 ·unfold roomO gT
  by_cases h : d < 0
  ·rw [if_pos h, if_pos h, ez]
  ·rw [if_neg h, if_neg h, ey]
 ·unfold roomO
  split <;> omega
 ·unfold roomO
  split <;> omega
theorem slack_same {w n y z : Int} (hy : 0 ≤ y) (hz : 0 ≤ z) (ends : Bool) : slackP ends n w (mn (mx (w - n) (-z)) y) = slackO w n y z ends ∧ (mn (mx (w - n) (-z)) y < 0 ↔ slackO w n y z ends < 0) := by
 unfold slackP slackO mn mx
 cases ends
 ·simp only [Bool.false_eq_true, false_and, if_false]
  refine ⟨?_, ?_⟩ <;> (repeat' split) <;> omega
 ·simp only [true_and]
  refine ⟨?_, ?_⟩ <;> (repeat' split) <;> omega
theorem lineOf_eq (toks : List S101) {l : List S43} {w : Int} (ok : OkL l w) {a b : Nat} (hab : a ≤ b) (hb : b ≤ l.length) : lineOf toks l w a b = lineC toks l w ((a : Int) - 1) b := by
 have hK := line_known ok hab hb
 have hl := ok.len
 have hw0 := ok.w0
 have hw1 := ok.w1
 have hseg := seg_len (l := l) (a := a) hb
 have hy := seg_bd ok (g := gY) (fun x hx => (g_bd hx).2.1) hab hb
 have hz := seg_bd ok (g := gZ) (fun x hx => (g_bd hx).2.2) hab hb
 have hn := seg_bd ok (g := gN) (fun x hx => (g_bd hx).1) hab hb
 have ey : lineY l ((a : Int) - 1) b = nS gY l b - nS gY l a := by
  unfold lineY
  rw [Int.toNat_natCast, show ((a : Int) - 1 + 1).toNat = a by omega]
 have ez : lineZ l ((a : Int) - 1) b = nS gZ l b - nS gZ l a := by
  unfold lineZ
  rw [Int.toNat_natCast, show ((a : Int) - 1 + 1).toNat = a by omega]
 have en : lineN l ((a : Int) - 1) b = nS gN l b - nS gN l a + if hyphP l b = true then (rd_T43 l b).f1 else 0 := by
  unfold lineN
  rw [Int.toNat_natCast, show ((a : Int) - 1 + 1).toNat = a by omega]
 have sy : sumT growT ((l.take b).drop a) (b - a) = nS gY l b - nS gY l a := by
  rw [show growT = gY from rfl, sum_seg ok (fun x hx => (g_bd hx).2.1) hab hb _ (by omega), show a + (b - a) = b by omega]
 have sz : sumT shrinkT ((l.take b).drop a) (b - a) = nS gZ l b - nS gZ l a := by
  rw [show shrinkT = gZ from rfl, sum_seg ok (fun x hx => (g_bd hx).2.2) hab hb _ (by omega), show a + (b - a) = b by omega]
 have sn : sumT wideT ((l.take b).drop a) (b - a) = nS gN l b - nS gN l a := by
  rw [show wideT = gN from rfl, sum_seg ok (fun x hx => (g_bd hx).1) hab hb _ (by omega), show a + (b - a) = b by omega]
 have hd : dashOf l b = if hyphP l b = true then [rd_T43 l b] else [] := by
  unfold dashOf hyphP
  simp
 have dn : dashN (nS gN l b - nS gN l a) (dashOf l b) (dashOf l b).length = lineN l ((a : Int) - 1) b := by
  rw [hd, en]
  by_cases hh : hyphP l b = true
  ·have hbl : b < l.length := by
    simp only [hyphP, Bool.and_eq_true, decide_eq_true_eq] at hh
    omega
   obtain ⟨o1, o2, o3, o4, o5, o6, o7, o8⟩ := rd_ok ok hbl
   rw [if_pos hh, if_pos hh]
   simp only [dashN, List.length_singleton, List.take_succ_cons, List.take_zero, List.foldl_cons, List.foldl_nil]
   exact w64 (by omega) (by omega)
  ·rw [if_neg hh, if_neg hh]
   simp [dashN]
 have hnb : 0 ≤ lineN l ((a : Int) - 1) b ∧ lineN l ((a : Int) - 1) b ≤ 32770000 := by
  rw [en]
  split
  ·rename_i hh
   have hbl : b < l.length := by
    simp only [hyphP, Bool.and_eq_true, decide_eq_true_eq] at hh
    omega
   obtain ⟨o1, o2, o3, o4, o5, o6, o7, o8⟩ := rd_ok ok hbl
   omega
  ·omega
 unfold lineOf setP
 rw [Int.toNat_natCast, Int.toNat_natCast, hseg, sy, sz, sn, dn, ← ey, ← ez, w64 (n := w - _) (by omega) (by omega), w64 (n := -_) (by omega) (by omega)]
 have hs := slack_same (w := w) (n := lineN l ((a : Int) - 1) b) (y := lineY l ((a : Int) - 1) b) (z := lineZ l ((a : Int) - 1) b) (by omega) (by omega) ((b : Int) == (l.length : Int))
 have hsl : slackO w (lineN l ((a : Int) - 1) b) (lineY l ((a : Int) - 1) b) (lineZ l ((a : Int) - 1) b) ((b : Int) == (l.length : Int)) = slackL l w ((a : Int) - 1) b := rfl
 rw [hsl] at hs
 unfold setQ
 rw [hs.1]
 generalize hs0 : mn (mx (w - lineN l ((a : Int) - 1) b) (-lineZ l ((a : Int) - 1) b)) (lineY l ((a : Int) - 1) b) = s0 at *
 have ht : tellP s0 = gT (slackL l w ((a : Int) - 1) b) := by
  unfold tellP gT
  by_cases h : s0 < 0
  ·rw [if_pos h, if_pos (hs.2.1 h)]
   rfl
  ·rw [if_neg h, if_neg (fun h' => h (hs.2.2 h'))]
   rfl
 have ha : allP s0 (lineY l ((a : Int) - 1) b) (lineZ l ((a : Int) - 1) b) = roomL l w ((a : Int) - 1) b := by
  unfold allP roomL roomO
  by_cases h : s0 < 0
  ·rw [if_pos h, if_pos (hs.2.1 h)]
  ·rw [if_neg h, if_neg (fun h' => h (hs.2.2 h'))]
 rw [ht, ha, hK.step toks (b - a) (by omega), show a + (b - a) = b by omega]
 have hpart := hK.part (i := b) hab (Nat.le_refl _)
 have hall := hK.all
 have hlo := hK.lo
 have hhi := hK.hi
 have xe : xS l (slackL l w ((a : Int) - 1) b) (roomL l w ((a : Int) - 1) b) a b = nS gN l b - nS gN l a + slackL l w ((a : Int) - 1) b := by
  unfold xS
  rw [← hK.all, partO_all (fun h => by omega)]
 have xl : xS l (slackL l w ((a : Int) - 1) b) (roomL l w ((a : Int) - 1) b) a b = xL l w ((a : Int) - 1) b b := by
  unfold xL xS
  rw [show ((a : Int) - 1 + 1).toNat = a by omega]
 unfold lineC
 rw [Int.toNat_natCast, show ((a : Int) - 1 + 1).toNat = a by omega, spS_spotsL toks l w _ _ a (by omega), bits_ev, hd]
 have yb : lineY l ((a : Int) - 1) b = nS gY l b - nS gY l a := ey
 have b1 : wrap64 (lineN l ((a : Int) - 1) b - lineZ l ((a : Int) - 1) b) = lineN l ((a : Int) - 1) b - lineZ l ((a : Int) - 1) b := w64 (by omega) (by omega)
 have b2 : wrap64 (lineN l ((a : Int) - 1) b + lineY l ((a : Int) - 1) b) = lineN l ((a : Int) - 1) b + lineY l ((a : Int) - 1) b := w64 (by omega) (by omega)
 rw [b1, b2]
 by_cases hh : hyphP l b = true
 ·have hbl : b < l.length := by
   simp only [hyphP, Bool.and_eq_true, decide_eq_true_eq] at hh
   omega
  obtain ⟨o1, o2, o3, o4, o5, o6, o7, o8⟩ := rd_ok ok hbl
  rw [if_pos hh, if_pos hh, hh]
  rw [if_pos hh] at en
  have e3 : xS l (slackL l w ((a : Int) - 1) b) (roomL l w ((a : Int) - 1) b) a b + (rd_T43 l b).f1 = lineN l ((a : Int) - 1) b + slackL l w ((a : Int) - 1) b := by rw [xe, en]; omega
  simp only [lineD, List.length_singleton, List.take_succ_cons, List.take_zero, List.foldl_cons, List.foldl_nil, stepD]
  rw [e3, xl, w64 (by omega) (by omega)]
  rfl
 ·rw [if_neg hh, if_neg hh]
  rw [if_neg hh] at en
  have hf : hyphP l b = false := by simpa using hh
  rw [hf]
  simp only [lineD, List.length_nil, List.take_zero, List.foldl_nil, List.append_nil]
  rw [xe, en, Int.add_zero]
  rfl
def linesC (toks : List S101) (l : List S43) (w : Int) : Int → List Int → List S55
 | _, [] => []
 | f, b :: bs => lineC toks l w f b :: linesC toks l w b bs
theorem lines_eq (toks : List S101) {l : List S43} {w : Int} (ok : OkL l w) : ∀ (bs : List Int) (f : Int), -1 ≤ f → Br l f bs → linesFrom toks l w (f + 1) bs = linesC toks l w f bs ∧ brOk l.length (f + 1) bs = true
 | [], f, hf, h => ⟨rfl, rfl⟩
 | b :: bs, f, hf, h => by
  obtain ⟨h1, h2, h3, h4⟩ := h
  obtain ⟨p1, p2⟩ := place_le h2
  obtain ⟨i1, i2⟩ := lines_eq toks ok bs b (by omega) h4
  obtain ⟨a, ha⟩ : ∃ a : Nat, f + 1 = a := ⟨(f + 1).toNat, by omega⟩
  obtain ⟨c, rfl⟩ : ∃ c : Nat, b = c := ⟨b.toNat, by omega⟩
  rw [linesFrom, linesC, i1, ha, lineOf_eq toks ok (by omega) (by omega), show (a : Int) - 1 = f by omega]
  refine ⟨rfl, ?_⟩
  rw [brOk, i2, Bool.and_true, decide_eq_true_eq]
  omega
theorem lines_Of_f (toks : List S101) (l : List S43) (w : Int) (bs : List Int) (hl : l.length ≤ 1000) (hb : bs.length ≤ 1000) :
  lines_Of.f toks l w bs = some (if checkP l w = 0 ∧ legalL l bs = true then (if l.any (oddT toks) = true then ([], 1) else (linesC toks l w (-1) bs, 0)) else ([], 1)) := by
 unfold lines_Of.f demeritsP
 rw [if_pos ⟨hl, hb⟩]
 by_cases h : checkP l w = 0 ∧ legalL l bs = true
 ·rw [if_pos h, if_pos h, if_pos rfl]
  split
  ·rfl
  ·obtain ⟨h1, h2⟩ := h
   have ok := check_ok h1
   unfold legalL at h2
   rw [Bool.and_eq_true] at h2
   have hbr := ((legalB_iff l bs (-1)).1 h2.2).1
   have he := lines_eq toks ok bs (-1) (by omega) hbr
   have hko : l.all kindOk = true := by
    rw [List.all_eq_true]
    intro x hx
    have := ok.item x hx
    unfold kindOk
    obtain ⟨o1, o2, o3, o4, o5, o6, o7, o8⟩ := this
    simp only [Bool.or_eq_true, beq_iff_eq]
    omega
   rw [show (-1 : Int) + 1 = 0 from rfl] at he
   rw [if_pos ⟨he.2, hko⟩, he.1]
 ·rw [if_neg h, if_neg h]
  rfl
theorem spotsL_len (toks : List S101) (l : List S43) (w f t : Int) (a : Nat) : ∀ k, (spotsL toks l w f t a k).length ≤ k
 | 0 => by simp [spotsL]
 | k + 1 => by
  have ih := spotsL_len toks l w f t a k
  rw [spotsL, List.length_append]
  split
  ·simp; omega
  ·simp; omega
theorem lineC_len (toks : List S101) {l : List S43} {w f t : Int} (ht : t ≤ l.length) : (lineC toks l w f t).f0.length ≤ l.length + 1 := by
 unfold lineC
 rw [List.length_append]
 have := spotsL_len toks l w f t (f + 1).toNat (t.toNat - (f + 1).toNat)
 split
 ·simp; omega
 ·simp; omega
theorem linesC_mem (toks : List S101) {l : List S43} (w : Int) : ∀ (bs : List Int) (f : Int), Br l f bs → (linesC toks l w f bs).length = bs.length ∧ ∀ x ∈ linesC toks l w f bs, x.f0.length ≤ l.length + 1
 | [], f, h => ⟨rfl, fun x hx => by cases hx⟩
 | b :: bs, f, h => by
  obtain ⟨h1, h2, h3, h4⟩ := h
  obtain ⟨i1, i2⟩ := linesC_mem toks w bs b h4
  refine ⟨by rw [linesC, List.length_cons, List.length_cons, i1], fun x hx => ?_⟩
  rw [linesC] at hx
  rcases List.mem_cons.1 hx with rfl | hx
  ·exact lineC_len toks (place_le h2).2
  ·exact i2 x hx
end Go.Proofs.Ytbddfnmhhmkfkaa.Pr
