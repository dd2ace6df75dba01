/- Texts of this seat, one behind the other. -/
import Derived.Test.YtbddfnmhhmkfkaaXLinesExact1
import Derived.Test.YtbddfnmhhmkfkaaXLinesExact3
namespace Go.Proofs.Ytbddfnmhhmkfkaa.Pr
open Go.RowKit Go.Proofs.YtbddfnmhhmkfkaaW.PrintWords Go.Proofs.YtbddfnmhhmkfkaaW.PrintLast Go.Proofs.YtbddfnmhhmkfkaaW.PrintMore
attribute [local go_sem] max2_int min2_int max_two min_two max_three min_three max_four min_four
set_option linter.unusedVariables false
set_option linter.unusedSimpArgs false
def s20_steady.l0 : Nat → List (S43) → Int → Option (Bool)
 | 0, _, _ => none
 | k + 1, x0, x3 => if x3 < (x0.length : Int) then (if 0 ≤ x3 then (if ((rd_T43 x0 x3).f0) = 2 then (if ((rd_T43 x0 x3).f3) > ((rd_T43 x0 x3).f1) then (some false) else (s20_steady.l0 k x0 (wrap64 (x3 + 1)))) else (s20_steady.l0 k x0 (wrap64 (x3 + 1)))) else (none)) else (some true)
def s20_steady.f (k : Nat) (l0 : List (S43)) : Option (Bool) := s20_steady.l0 k l0 0
theorem s20_steady.mono_l : ∀ k, (∀ y0 y1, LeO (s20_steady.l0 k y0 y1) (s20_steady.l0 (k + 1) y0 y1))
 | 0 => fun _ _ r h => by simp [s20_steady.l0] at h
 | k + 1 => by
  have ih0 := s20_steady.mono_l k
  ·intro y0 y1
   unfold s20_steady.l0
   repeat' first
   | (with_reducible exact ih0 _ _)
   | (with_reducible exact LeO.refl _)
   | (with_reducible exact LeO.none _)
   | (with_reducible refine LeO.ite ?_ ?_)
   | (with_reducible refine LeO.bind ?_ (fun _ => ?_))
   | exact ih0 _ _
   | exact LeO.none _
   | refine LeO.ite ?_ ?_
   | refine LeO.bind ?_ (fun _ => ?_)
theorem s20_steady.mono : ∀ a0 k, LeO (s20_steady.f k a0) (s20_steady.f (k + 1) a0) := by
 intro a0 k
 have ih0 := s20_steady.mono_l k
 unfold s20_steady.f
 repeat' first
   | (with_reducible exact ih0 _ _)
   | (with_reducible exact LeO.refl _)
   | (with_reducible exact LeO.none _)
   | (with_reducible refine LeO.ite ?_ ?_)
   | (with_reducible refine LeO.bind ?_ (fun _ => ?_))
   | exact ih0 _ _
   | exact LeO.none _
   | refine LeO.ite ?_ ?_
   | refine LeO.bind ?_ (fun _ => ?_)
set_option maxHeartbeats 8000000 in
set_option maxRecDepth 100000 in
theorem s20_steady.calls (k : Nat) (A0 : Option Addr) (c0 : Nat) (l0 : List (S43)) (r : Bool) (w : World) (hr0 : Kd.C k43 w A0 l0.length l0) (hc0 : l0.length ≤ c0) (h : s20_steady.f k l0 = some r) :
  Calls Try.prog 31 #[.slice A0 l0.length c0] w fun e w' => e = .returned (.bool r) ∧ Drawn0 w w' := by
 have HR0 := Aside0.mk hr0
 have HC0 := Aside0.mk hc0
 clear hr0 hc0
 have H : (s20_steady.l0 k l0 0) = some r := h
 clear h
 have H' := Aside0.mk H
 clear H
 go_enter Try.func31, Try.ntmps31
 go_wp2
 repeat (go_quiet (fail); try go_wp2)
 go_loopg [3] k (fun kq v3 w' => ∃ (x3_1 : Int), v3 = .int .i64 x3_1 ∧ Aside0 (s20_steady.l0 kq l0 x3_1 = some r) ∧ Aside0 (kq ≤ k) ∧ Drawn0 w w')
 case atStart => exact ⟨(0), (by first | rfl | (simp; done) | (simp [*]; done)), H', ⟨Nat.le_refl _⟩, by repeat (first | exact Drawn0.refl _ | apply Drawn0.step)⟩
 case round =>
  clear H'
  obtain ⟨x3_1, rfl, HA, HK1, ⟨m1, rfl⟩⟩ := hrel
  cases gk with
  | zero => exact absurd HA.out (by simp [s20_steady.l0])
  | succ k1 =>
   have H := HA.out
   clear HA
   simp only [s20_steady.l0] at H
   by_cases c2 : x3_1 < (l0.length : Int)
   ·rw [if_pos c2] at H
    have c2b0 : decide (x3_1 < (l0.length : Int)) = true := decide_eq_true c2
    clear c2
    by_cases c3 : 0 ≤ x3_1
    ·rw [if_pos c3] at H
     have c3b0 : decide (0 ≤ x3_1) = true := decide_eq_true c3
     clear c3
     by_cases c4 : ((rd_T43 l0 x3_1).f0) = 2
     ·rw [if_pos c4] at H
      have c4b0 : (((rd_T43 l0 x3_1).f0) == 2) = true := beq_iff_eq.mpr c4
      have c4b1 : (((rd_T43 l0 x3_1).f0) != 2) = false := bne_eq_false_iff_eq.mpr c4
      clear c4
      by_cases c5 : ((rd_T43 l0 x3_1).f3) > ((rd_T43 l0 x3_1).f1)
      ·rw [if_pos c5] at H
       have c5b0 : decide (((rd_T43 l0 x3_1).f1) < ((rd_T43 l0 x3_1).f3)) = true := decide_eq_true c5
       clear c5
       obtain rfl := Option.some.inj H
       have p363 : 0 ≤ (x3_1 : Int) := of_decide_eq_true (by first | (with_reducible assumption) | assumption)
       have q363 : x3_1 < (l0.length : Int) := of_decide_eq_true (by first | (with_reducible assumption) | assumption)
       obtain ⟨ad363, e363, hx363_0, hx363_1, hx363_2, hx363_3, hx363_4⟩ := at_T43 HR0.out x3_1 p363 q363
       cases e363
       replace p363 := eq_true p363
       replace q363 := eq_true q363
       have p364 : 0 ≤ (x3_1 : Int) := of_decide_eq_true (by first | (with_reducible assumption) | assumption)
       have q364 : x3_1 < (l0.length : Int) := of_decide_eq_true (by first | (with_reducible assumption) | assumption)
       obtain ⟨ad364, e364, hx364_0, hx364_1, hx364_2, hx364_3, hx364_4⟩ := at_T43 HR0.out x3_1 p364 q364
       obtain rfl : ad363 = ad364 := (by injection e364)
       replace p364 := eq_true p364
       replace q364 := eq_true q364
       have p365 : 0 ≤ (x3_1 : Int) := of_decide_eq_true (by first | (with_reducible assumption) | assumption)
       have q365 : x3_1 < (l0.length : Int) := of_decide_eq_true (by first | (with_reducible assumption) | assumption)
       obtain ⟨ad365, e365, hx365_0, hx365_1, hx365_2, hx365_3, hx365_4⟩ := at_T43 HR0.out x3_1 p365 q365
       obtain rfl : ad363 = ad365 := (by injection e365)
       replace p365 := eq_true p365
       replace q365 := eq_true q365
       go_wp2
       repeat (go_quiet (fail); try go_wp2)
       go_ret
       exact ⟨by first | rfl | (simp; done) | (simp [*]; done), by repeat (first | exact Drawn0.refl _ | apply Drawn0.step)⟩
      ·rw [if_neg c5] at H
       have c5b0 : decide (((rd_T43 l0 x3_1).f1) < ((rd_T43 l0 x3_1).f3)) = false := decide_eq_false c5
       clear c5
       have H' := Aside0.mk H
       clear H
       have p363 : 0 ≤ (x3_1 : Int) := of_decide_eq_true (by first | (with_reducible assumption) | assumption)
       have q363 : x3_1 < (l0.length : Int) := of_decide_eq_true (by first | (with_reducible assumption) | assumption)
       obtain ⟨ad363, e363, hx363_0, hx363_1, hx363_2, hx363_3, hx363_4⟩ := at_T43 HR0.out x3_1 p363 q363
       cases e363
       replace p363 := eq_true p363
       replace q363 := eq_true q363
       have p364 : 0 ≤ (x3_1 : Int) := of_decide_eq_true (by first | (with_reducible assumption) | assumption)
       have q364 : x3_1 < (l0.length : Int) := of_decide_eq_true (by first | (with_reducible assumption) | assumption)
       obtain ⟨ad364, e364, hx364_0, hx364_1, hx364_2, hx364_3, hx364_4⟩ := at_T43 HR0.out x3_1 p364 q364
       obtain rfl : ad363 = ad364 := (by injection e364)
       replace p364 := eq_true p364
       replace q364 := eq_true q364
       have p365 : 0 ≤ (x3_1 : Int) := of_decide_eq_true (by first | (with_reducible assumption) | assumption)
       have q365 : x3_1 < (l0.length : Int) := of_decide_eq_true (by first | (with_reducible assumption) | assumption)
       obtain ⟨ad365, e365, hx365_0, hx365_1, hx365_2, hx365_3, hx365_4⟩ := at_T43 HR0.out x3_1 p365 q365
       obtain rfl : ad363 = ad365 := (by injection e365)
       replace p365 := eq_true p365
       replace q365 := eq_true q365
       go_wp2
       repeat (go_quiet (fail); try go_wp2)
       go_roundg k1
       case measure => have := HK1.out; omega
       case rel => exact ⟨(wrap64 (x3_1 + 1)), (by first | rfl | (simp; done) | (simp [*]; done)), H', ⟨by have := HK1.out; omega⟩, by repeat (first | exact Drawn0.refl _ | apply Drawn0.step)⟩
     ·rw [if_neg c4] at H
      have c4b0 : (((rd_T43 l0 x3_1).f0) == 2) = false := beq_eq_false_iff_ne.mpr c4
      have c4b1 : (((rd_T43 l0 x3_1).f0) != 2) = true := bne_iff_ne.mpr c4
      have H' := Aside0.mk H
      clear H
      have p363 : 0 ≤ (x3_1 : Int) := of_decide_eq_true (by first | (with_reducible assumption) | assumption)
      have q363 : x3_1 < (l0.length : Int) := of_decide_eq_true (by first | (with_reducible assumption) | assumption)
      obtain ⟨ad363, e363, hx363_0, hx363_1, hx363_2, hx363_3, hx363_4⟩ := at_T43 HR0.out x3_1 p363 q363
      cases e363
      replace p363 := eq_true p363
      replace q363 := eq_true q363
      go_wp2
      repeat (go_quiet (fail); try go_wp2)
      go_roundg k1
      case measure => have := HK1.out; omega
      case rel => exact ⟨(wrap64 (x3_1 + 1)), (by first | rfl | (simp; done) | (simp [*]; done)), H', ⟨by have := HK1.out; omega⟩, by repeat (first | exact Drawn0.refl _ | apply Drawn0.step)⟩
    ·rw [if_neg c3] at H
     exact absurd H (by simp)
   ·rw [if_neg c2] at H
    have c2b0 : decide (x3_1 < (l0.length : Int)) = false := decide_eq_false c2
    clear c2
    obtain rfl := Option.some.inj H
    go_wp2
    repeat (go_quiet (fail); try go_wp2)
    go_ret
    exact ⟨by first | rfl | (simp; done) | (simp [*]; done), by repeat (first | exact Drawn0.refl _ | apply Drawn0.step)⟩
end Go.Proofs.Ytbddfnmhhmkfkaa.Pr
namespace Go.Proofs.Ytbddfnmhhmkfkaa.Pr
set_option linter.unusedVariables false
set_option linter.unusedSimpArgs false
open Go.RowKit Go.Proofs.YtbddfnmhhmkfkaaW.PrintWords Go.Proofs.YtbddfnmhhmkfkaaW.PrintLast Go.Proofs.YtbddfnmhhmkfkaaW.PrintMore
def spR (toks : List S101) (l : List S43) (w f t : Int) : Nat → Nat → List S57
 | 0, _ => []
 | d + 1, i => if (rd_T43 l (i : Int)).f0 = 3 then spR toks l w f t d (i + 1) else spotP toks (rd_T43 l (i : Int)) (xL l w f t i) :: spR toks l w f t d (i + 1)
theorem spR_spotsL (toks : List S101) (l : List S43) (w f t : Int) (a : Nat) : ∀ d k, spotsL toks l w f t a (k + d) = spotsL toks l w f t a k ++ spR toks l w f t d (a + k)
 | 0, k => by simp [spR]
 | d + 1, k => by
  have ih := spR_spotsL toks l w f t a d (k + 1)
  rw [show k + (d + 1) = k + 1 + d by omega, ih, spotsL, spR, show a + (k + 1) = a + k + 1 by omega]
  split
  ·simp
  ·simp
def dashL (toks : List S101) (l : List S43) (w f t : Int) : List S57 := if hyphP l t = true then [spotP toks (rd_T43 l t) (xL l w f t t.toNat)] else []
theorem lineC_spots (toks : List S101) (l : List S43) (w f t : Int) : (lineC toks l w f t).f0 = spR toks l w f t (t.toNat - (f + 1).toNat) (f + 1).toNat ++ dashL toks l w f t := by
 have := spR_spotsL toks l w f t (f + 1).toNat (t.toNat - (f + 1).toNat) 0
 rw [Nat.zero_add, spotsL, List.nil_append, Nat.add_zero] at this
 unfold lineC dashL
 rw [this]
theorem spR_next (toks : List S101) (l : List S43) (w f t : Int) : ∀ (d i : Nat), (spR toks l w f t d i = [] ∧ ∀ q, i ≤ q → q < i + d → (rd_T43 l (q : Int)).f0 = 3) ∨
  ∃ p, i ≤ p ∧ p < i + d ∧ (∀ q, i ≤ q → q < p → (rd_T43 l (q : Int)).f0 = 3) ∧ (rd_T43 l (p : Int)).f0 ≠ 3 ∧ spR toks l w f t d i = spotP toks (rd_T43 l (p : Int)) (xL l w f t p) :: spR toks l w f t (i + d - (p + 1)) (p + 1)
 | 0, i => .inl ⟨rfl, fun q h1 h2 => by omega⟩
 | d + 1, i => by
  by_cases h3 : (rd_T43 l (i : Int)).f0 = 3
  ·rw [spR, if_pos h3]
   rcases spR_next toks l w f t d (i + 1) with ⟨h1, h2⟩ | ⟨p, h1, h2, h4, h5, h6⟩
   ·refine .inl ⟨h1, fun q h6 h7 => ?_⟩
    by_cases e : q = i
    ·rw [e]; exact h3
    ·exact h2 q (by omega) (by omega)
   ·refine .inr ⟨p, by omega, by omega, fun q h7 h8 => ?_, h5, ?_⟩
    ·by_cases e : q = i
     ·rw [e]; exact h3
     ·exact h4 q (by omega) h8
    ·rw [h6, show i + 1 + d - (p + 1) = i + (d + 1) - (p + 1) by omega]
  ·refine .inr ⟨i, Nat.le_refl _, by omega, fun q h1 h2 => by omega, h3, ?_⟩
   rw [spR, if_neg h3, show i + (d + 1) - (i + 1) = d by omega]
def steadyP (l : List S43) : Bool := l.all fun x => !(x.f0 == 2) || decide (x.f3 ≤ x.f1)
theorem steady_l0 (l : List S43) (hl : l.length ≤ 16384) : ∀ (d i : Nat), i + d = l.length → Ev (fun k => s20_steady.l0 k l i) (steadyP (l.drop i))
 | 0, i, h => by
  rw [List.drop_of_length_le (by omega)]
  exact Ev.step (fun k => by rw [s20_steady.l0.eq_2, if_neg (by omega)]; rfl) (Ev.now _)
 | d + 1, i, h => by
  have hil : i < l.length := by omega
  have c1 : (i : Int) < l.length := by omega
  have c2 : (0 : Int) ≤ i := by omega
  have ih := steady_l0 l hl d (i + 1) (by omega)
  have e : ∀ _ : Unit, wrap64 ((i : Int) + 1) = ((i + 1 : Nat) : Int) := fun _ => by rw [w64 (by omega) (by omega)]; omega
  have hd : l.drop i = rd_T43 l i :: l.drop (i + 1) := by
   have := rd_get hil
   rw [List.getElem?_eq_getElem hil] at this
   rw [List.drop_eq_getElem_cons hil, Option.some.inj this]
  have hs : steadyP (l.drop i) = ((!((rd_T43 l i).f0 == 2) || decide ((rd_T43 l i).f3 ≤ (rd_T43 l i).f1)) && steadyP (l.drop (i + 1))) := by
   rw [hd]
   rfl
  rw [hs]
  by_cases h2 : (rd_T43 l i).f0 = 2
  ·by_cases h3 : (rd_T43 l i).f3 > (rd_T43 l i).f1
   ·rw [beq_iff_eq.2 h2, decide_eq_false (by omega)]
    exact Ev.step (fun k => by rw [s20_steady.l0.eq_2, if_pos c1, if_pos c2, if_pos h2, if_pos h3]; rfl) (Ev.now _)
   ·rw [beq_iff_eq.2 h2, decide_eq_true (show (rd_T43 l i).f3 ≤ (rd_T43 l i).f1 by omega)]
    exact Ev.step (fun k => by rw [s20_steady.l0.eq_2, if_pos c1, if_pos c2, if_pos h2, if_neg h3, e ()]) (by simpa using ih)
  ·rw [beq_eq_false_iff_ne.2 h2]
   exact Ev.step (fun k => by rw [s20_steady.l0.eq_2, if_pos c1, if_pos c2, if_neg h2, e ()]) (by simpa using ih)
theorem steady_ev (l : List S43) (hl : l.length ≤ 16384) : Ev (fun k => s20_steady.f k l) (steadyP l) := steady_l0 l hl l.length 0 (by omega)
theorem xL_xS {l : List S43} {w : Int} {a b : Nat} (i : Nat) : xL l w ((a : Int) - 1) b i = xS l (slackL l w ((a : Int) - 1) b) (roomL l w ((a : Int) - 1) b) a i := by
 unfold xL xS
 rw [show ((a : Int) - 1 + 1).toNat = a by omega]
theorem xS_step {l : List S43} {w : Int} {a b : Nat} {sl al : Int} (hK : LineK l w a b sl al) (hc : steadyP l = true) {i : Nat} (h1 : a ≤ i) (h2 : i < b) : xS l sl al a i ≤ xS l sl al a (i + 1) := by
 have hbl := hK.bl
 have hil : i < l.length := by omega
 have hn := nS_next (l := l) gN hil
 have ht := nS_next (l := l) (gT sl) hil
 have ho := rd_ok hK.ok hil
 have b2 := hK.part (i := i) (by omega) (by omega)
 have b3 := hK.part (i := i + 1) (by omega) (by omega)
 have g0 := gT_bd sl _ ho
 have hst := List.all_eq_true.1 hc _ (List.mem_of_getElem? (rd_get hil))
 have p := partO_step (d := sl) (all := al) (s := nS (gT sl) l i - nS (gT sl) l a) (t := gT sl (rd_T43 l i)) hK.lo hK.hi b2.1 g0.1 (by omega)
 rw [show nS (gT sl) l i - nS (gT sl) l a + gT sl (rd_T43 l i) = nS (gT sl) l (i + 1) - nS (gT sl) l a by omega] at p
 unfold xS
 have gn := (g_bd ho).1
 by_cases hs : sl < 0
 ·have hz : gT sl (rd_T43 l i) ≤ gN (rd_T43 l i) := by
   have e : gT sl = gZ := by
    unfold gT
    rw [if_pos hs]
   rw [e]
   unfold gZ gN
   by_cases k2 : (rd_T43 l i).f0 = 2
   ·rw [if_pos k2, if_neg (by omega)]
    simp only [k2, beq_self_eq_true, Bool.not_true, Bool.false_or, decide_eq_true_eq] at hst
    exact hst
   ·rw [if_neg k2]
    unfold gN at gn
    exact gn.1
  have := p.2
  omega
 ·have := p.1 (by omega)
  omega
theorem xS_mono {l : List S43} {w : Int} {a b : Nat} {sl al : Int} (hK : LineK l w a b sl al) (hc : steadyP l = true) {i : Nat} (h1 : a ≤ i) : ∀ d : Nat, i + d ≤ b → xS l sl al a i ≤ xS l sl al a (i + d)
 | 0, h => Int.le_refl _
 | d + 1, h => Int.le_trans (xS_mono hK hc h1 d (by omega)) (xS_step hK hc (by omega) (by omega))
def Rises (lo hi : Int) : List S57 → Prop
 | [] => lo ≤ hi
 | s :: rest => lo ≤ s.f0 ∧ s.f0 ≤ hi ∧ Rises s.f0 hi rest
theorem Rises.le {lo hi : Int} : ∀ {xs : List S57}, Rises lo hi xs → lo ≤ hi
 | [], h => h
 | s :: rest, h => by
  obtain ⟨h1, h2, _⟩ := h
  omega
theorem Rises.lower {lo lo' hi : Int} (hl : lo' ≤ lo) : ∀ {xs : List S57}, Rises lo hi xs → Rises lo' hi xs
 | [], h => by
  have h : lo ≤ hi := h
  show lo' ≤ hi
  omega
 | s :: rest, h => by
  obtain ⟨h1, h2, h3⟩ := h
  exact ⟨by omega, h2, h3⟩
theorem Rises.at {hi : Int} : ∀ {xs : List S57} {lo : Int} (h : Rises lo hi xs) {k : Nat}, k < xs.length → lo ≤ (rd_T57 xs k).f0 ∧ (rd_T57 xs k).f0 ≤ hi ∧ ∀ j : Nat, k = j + 1 → (rd_T57 xs j).f0 ≤ (rd_T57 xs k).f0
 | [], lo, h, k, hk => by simp at hk
 | s :: rest, lo, h, k, hk => by
  obtain ⟨h1, h2, h3⟩ := h
  cases k with
  | zero => exact ⟨h1, h2, fun j hj => by omega⟩
  | succ k =>
   have hk' : k < rest.length := by simpa using hk
   have e : ∀ m : Nat, rd_T57 (s :: rest) ((m + 1 : Nat) : Int) = rd_T57 rest m := fun m => by
    unfold rd_T57
    rw [Int.toNat_natCast, Int.toNat_natCast]
    rfl
   obtain ⟨i1, i2, i3⟩ := Rises.at h3 hk'
   rw [e]
   refine ⟨by omega, i2, fun j hj => ?_⟩
   obtain rfl : j = k := by omega
   cases j with
   | zero => exact i1
   | succ j =>
    rw [e]
    exact i3 j rfl
theorem spR_rises (toks : List S101) {l : List S43} {w : Int} {a b : Nat} (ok : OkL l w) (hab : a ≤ b) (hb : b ≤ l.length) (hc : steadyP l = true) (tail : List S57) (hi : Int) (ht : Rises (xL l w ((a : Int) - 1) b b) hi tail) : ∀ (d i : Nat), a ≤ i → i + d = b → Rises (xL l w ((a : Int) - 1) b i) hi (spR toks l w ((a : Int) - 1) b d i ++ tail)
 | 0, i, h1, h2 => by
  obtain rfl : i = b := by omega
  rw [spR, List.nil_append]
  exact ht
 | d + 1, i, h1, h2 => by
  have hK := line_known ok hab hb
  have ih := spR_rises toks ok hab hb hc tail hi ht d (i + 1) (by omega) (by omega)
  have hs := xS_step hK hc h1 (by omega)
  rw [← xL_xS, ← xL_xS] at hs
  rw [spR]
  split
  ·exact ih.lower hs
  ·refine ⟨Int.le_refl _, ?_, ih.lower hs⟩
   have := ih.le
   show xL l w ((a : Int) - 1) b i ≤ hi
   omega
structure LineX (toks : List S101) (l : List S43) (w : Int) (a b : Nat) (L : S55) (o lo d : Bool) : Prop where
 bits : L.f2 = bitsO o lo d
 over : o = true → w < L.f1 ∧ lo = false
 fits : o = false → L.f1 ≤ w
 loose : lo = true → L.f1 < w ∧ b ≠ l.length
 exact_ : o = false → lo = false → b ≠ l.length → L.f1 = w
 dash : d = hyphP l b
 spots : L.f0 = spR toks l w ((a : Int) - 1) b (b - a) a ++ dashL toks l w ((a : Int) - 1) b
 calm : steadyP l = true → Rises 0 L.f1 L.f0
theorem lineC_X (toks : List S101) {l : List S43} {w : Int} (ok : OkL l w) {a b : Nat} (hab : a ≤ b) (hb : b ≤ l.length) :
  LineX toks l w a b (lineC toks l w ((a : Int) - 1) b) (decide (w < lineN l ((a : Int) - 1) b - lineZ l ((a : Int) - 1) b)) (!((b : Int) == (l.length : Int)) && decide (lineN l ((a : Int) - 1) b + lineY l ((a : Int) - 1) b < w)) (hyphP l b) := by
 have hK := line_known ok hab hb
 obtain ⟨bN, bY, bZ⟩ := line_bd ok (f := (a : Int) - 1) (t := b) (by omega) (by omega) (by omega)
 have hsl : slackL l w ((a : Int) - 1) b = slackO w (lineN l ((a : Int) - 1) b) (lineY l ((a : Int) - 1) b) (lineZ l ((a : Int) - 1) b) ((b : Int) == (l.length : Int)) := rfl
 have hf1 : (lineC toks l w ((a : Int) - 1) b).f1 = lineN l ((a : Int) - 1) b + slackL l w ((a : Int) - 1) b := rfl
 refine ⟨rfl, ?_, ?_, ?_, ?_, rfl, ?_, ?_⟩
 ·intro h
  rw [decide_eq_true_eq] at h
  rw [hf1, hsl]
  refine ⟨?_, ?_⟩
  ·unfold slackO
   (repeat' split) <;> omega
  ·rw [Bool.and_eq_false_iff]
   exact .inr (decide_eq_false (by omega))
 ·intro h
  rw [decide_eq_false_iff_not] at h
  rw [hf1, hsl]
  unfold slackO
  (repeat' split) <;> omega
 ·intro h
  simp only [Bool.and_eq_true, Bool.not_eq_true', beq_eq_false_iff_ne, decide_eq_true_eq] at h
  obtain ⟨h1, h2⟩ := h
  rw [hf1, hsl]
  refine ⟨?_, by omega⟩
  unfold slackO
  rw [beq_eq_false_iff_ne.2 h1, if_neg (by simp)]
  (repeat' split) <;> omega
 ·intro h1 h2 h3
  rw [decide_eq_false_iff_not] at h1
  have h3' : ((b : Int) == (l.length : Int)) = false := beq_eq_false_iff_ne.2 (by omega)
  rw [h3'] at h2 hsl
  simp only [Bool.not_false, Bool.true_and, decide_eq_false_iff_not] at h2
  rw [hf1, hsl]
  unfold slackO
  rw [if_neg (by simp)]
  (repeat' split) <;> omega
 ·rw [lineC_spots, Int.toNat_natCast, show ((a : Int) - 1 + 1).toNat = a by omega]
 ·intro hc
  have h0 : xL l w ((a : Int) - 1) b a = 0 := by
   rw [xL_xS]
   unfold xS partO
   simp
  have he : xL l w ((a : Int) - 1) b b = nS gN l b - nS gN l a + slackL l w ((a : Int) - 1) b := by
   have hall := hK.all
   have hlo := hK.lo
   have hhi := hK.hi
   rw [xL_xS]
   unfold xS
   rw [← hK.all, partO_all (fun h => by omega)]
  have hn : lineN l ((a : Int) - 1) b = nS gN l b - nS gN l a + if hyphP l b = true then (rd_T43 l b).f1 else 0 := by
   unfold lineN
   rw [Int.toNat_natCast, show ((a : Int) - 1 + 1).toNat = a by omega]
  rw [lineC_spots, Int.toNat_natCast, show ((a : Int) - 1 + 1).toNat = a by omega, hf1]
  have tail : Rises (xL l w ((a : Int) - 1) b b) (lineN l ((a : Int) - 1) b + slackL l w ((a : Int) - 1) b) (dashL toks l w ((a : Int) - 1) b) := by
   unfold dashL
   by_cases hh : hyphP l b = true
   ·have hbl : b < l.length := by
     have := hh
     simp only [hyphP, Bool.and_eq_true, decide_eq_true_eq] at this
     omega
    obtain ⟨o1, o2, o3, o4, o5, o6, o7, o8⟩ := rd_ok ok hbl
    rw [if_pos hh] at hn ⊢
    rw [Int.toNat_natCast]
    refine ⟨Int.le_refl _, ?_, ?_⟩
    ·show xL l w ((a : Int) - 1) b b ≤ _
     rw [he, hn]
     omega
    ·show xL l w ((a : Int) - 1) b b ≤ _
     rw [he, hn]
     omega
   ·rw [if_neg hh] at hn ⊢
    show _ ≤ _
    rw [he, hn]
    omega
  have := spR_rises toks ok hab hb hc _ _ tail (b - a) a (Nat.le_refl _) (by omega)
  rw [h0] at this
  exact this
theorem bitsO_and (o lo d : Bool) : bits .and .i64 (bitsO o lo d) 3 = (if o then 1 else 0) + (if lo then 2 else 0) ∧ bits .and .i64 (bitsO o lo d) 1 = (if o then 1 else 0) ∧ bits .and .i64 (bitsO o lo d) 2 = (if lo then 2 else 0) ∧ bits .and .i64 (bitsO o lo d) 4 = (if d then 4 else 0) := by
 cases o <;> cases lo <;> cases d <;> decide +kernel
theorem rdAt {out : List Int} {i : Nat} {e : Int} {rest : List Int} (h : out.drop i = e :: rest) : i < out.length ∧ rd out i = e ∧ out.drop (i + 1) = rest := by
 have hi : i < out.length := by
  have := congrArg List.length h
  simp at this
  omega
 rw [rd_drop hi] at h
 injection h with h1 h2
 exact ⟨hi, h1, h2⟩
theorem rdAt55 {out : List S55} {i : Nat} {e : S55} {rest : List S55} (h : out.drop i = e :: rest) : i < out.length ∧ rd_T55 out i = e ∧ out.drop (i + 1) = rest := by
 have hi : i < out.length := by
  have := congrArg List.length h
  simp at this
  omega
 rw [List.drop_eq_getElem_cons hi] at h
 injection h with h1 h2
 refine ⟨hi, ?_, h2⟩
 unfold rd_T55
 rw [Int.toNat_natCast, List.getD_eq_getElem?_getD, List.getElem?_eq_getElem hi, ← h1]
 rfl
theorem rdAt57 {out : List S57} {i : Nat} {e : S57} {rest : List S57} (h : out.drop i = e :: rest) : i < out.length ∧ rd_T57 out i = e ∧ out.drop (i + 1) = rest := by
 have hi : i < out.length := by
  have := congrArg List.length h
  simp at this
  omega
 rw [List.drop_eq_getElem_cons hi] at h
 injection h with h1 h2
 refine ⟨hi, ?_, h2⟩
 unfold rd_T57
 rw [Int.toNat_natCast, List.getD_eq_getElem?_getD, List.getElem?_eq_getElem hi, ← h1]
 rfl
end Go.Proofs.Ytbddfnmhhmkfkaa.Pr
namespace Go.Proofs.Ytbddfnmhhmkfkaa.Pr
open Go.RowKit Go.Proofs.YtbddfnmhhmkfkaaW.PrintWords Go.Proofs.YtbddfnmhhmkfkaaW.PrintLast Go.Proofs.YtbddfnmhhmkfkaaW.PrintMore
theorem awake20 : s20_awake.f 60 = some true := rfl
end Go.Proofs.Ytbddfnmhhmkfkaa.Pr
namespace Go.Proofs.Ytbddfnmhhmkfkaa.Pr
open Go.RowKit Go.Proofs.YtbddfnmhhmkfkaaW.PrintWords Go.Proofs.YtbddfnmhhmkfkaaW.PrintLast Go.Proofs.YtbddfnmhhmkfkaaW.PrintMore
attribute [local go_sem] max2_int min2_int max_two min_two max_three min_three max_four min_four
set_option linter.unusedVariables false
set_option linter.unusedSimpArgs false
def s20_kind.f (l0 : List (S43)) (a1 : Int) : Option (Int) := if a1 < 0 then (some 0) else (if a1 ≥ (l0.length : Int) then (some 0) else (if 0 ≤ a1 then (if a1 < (l0.length : Int) then (some ((rd_T43 l0 a1).f0)) else (none)) else (none)))
set_option maxHeartbeats 8000000 in
set_option maxRecDepth 100000 in
theorem s20_kind.calls (A0 : Option Addr) (c0 : Nat) (l0 : List (S43)) (a1 : Int) (r : Int) (w : World) (hr0 : Kd.C k43 w A0 l0.length l0) (hc0 : l0.length ≤ c0) (h : s20_kind.f l0 a1 = some r) :
  Calls Try.prog 32 #[.slice A0 l0.length c0, .int .i64 a1] w fun e w' => e = .returned (.int .i64 r) ∧ Drawn0 w w' := by
 have HR0 := Aside0.mk hr0
 have HC0 := Aside0.mk hc0
 clear hr0 hc0
 have H : (if a1 < 0 then (some 0) else (if a1 ≥ (l0.length : Int) then (some 0) else (if 0 ≤ a1 then (if a1 < (l0.length : Int) then (some ((rd_T43 l0 a1).f0)) else (none)) else (none)))) = some r := h
 clear h
 by_cases c3 : a1 < 0
 ·rw [if_pos c3] at H
  have c3b0 : decide (a1 < 0) = true := decide_eq_true c3
  clear c3
  obtain rfl := Option.some.inj H
  go_enter Try.func32, Try.ntmps32
  go_wp2
  go_ret
  exact ⟨by first | rfl | (simp; done) | (simp [*]; done), by repeat (first | exact Drawn0.refl _ | apply Drawn0.step)⟩
 ·rw [if_neg c3] at H
  have c3b0 : decide (a1 < 0) = false := decide_eq_false c3
  clear c3
  by_cases c4 : a1 ≥ (l0.length : Int)
  ·rw [if_pos c4] at H
   have c4b0 : decide ((l0.length : Int) ≤ a1) = true := decide_eq_true c4
   clear c4
   obtain rfl := Option.some.inj H
   go_enter Try.func32, Try.ntmps32
   go_wp2
   go_ret
   exact ⟨by first | rfl | (simp; done) | (simp [*]; done), by repeat (first | exact Drawn0.refl _ | apply Drawn0.step)⟩
  ·rw [if_neg c4] at H
   have c4b0 : decide ((l0.length : Int) ≤ a1) = false := decide_eq_false c4
   clear c4
   by_cases c5 : 0 ≤ a1
   ·rw [if_pos c5] at H
    have c5b0 : decide (0 ≤ a1) = true := decide_eq_true c5
    clear c5
    by_cases c6 : a1 < (l0.length : Int)
    ·rw [if_pos c6] at H
     have c6b0 : decide (a1 < (l0.length : Int)) = true := decide_eq_true c6
     clear c6
     obtain rfl := Option.some.inj H
     have p582 : 0 ≤ (a1 : Int) := of_decide_eq_true (by first | (with_reducible assumption) | assumption)
     have q582 : a1 < (l0.length : Int) := of_decide_eq_true (by first | (with_reducible assumption) | assumption)
     obtain ⟨ad582, e582, hx582_0, hx582_1, hx582_2, hx582_3, hx582_4⟩ := at_T43 HR0.out a1 p582 q582
     cases e582
     replace p582 := eq_true p582
     replace q582 := eq_true q582
     go_enter Try.func32, Try.ntmps32
     go_wp2
     go_ret
     exact ⟨by first | rfl | (simp; done) | (simp [*]; done), by repeat (first | exact Drawn0.refl _ | apply Drawn0.step)⟩
    ·rw [if_neg c6] at H
     exact absurd H (by simp)
   ·rw [if_neg c5] at H
    exact absurd H (by simp)
end Go.Proofs.Ytbddfnmhhmkfkaa.Pr
