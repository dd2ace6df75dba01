/- Texts of this seat, one behind the other. -/
import Derived.Lib.OthersKept
import Derived.Lib.DecodeN
import Derived.Deep.LoopGhost
import Derived.Outline
import Derived.Lib.Hide
import Derived.WalkKit
import Derived.Laws.AppendOwnNone
import Derived.Test.YthcmfjpheanphaaXTreeParses1
import Derived.Test.YthcmfjpheanphaaXTreeParses2
import Derived.Test.YthcmfjpheanphaaXTreeParses3
import Derived.Test.YthcmfjpheanphaaXTreeParses4
import Derived.Test.YthcmfjpheanphaaXTreeParses5
import Derived.Test.YthcmfjpheanphaaXTreeParses6
import Derived.Test.YthcmfjpheanphaaXTreeParses7
import Derived.Test.YthcmfjpheanphaaXTreeParses8
import Derived.Test.YthcmfjpheanphaaXTreeParses9
import Derived.Test.YthcmfjpheanphaaXTreeParses10
import Derived.Test.YthcmfjpheanphaaXTreeParses11
set_option linter.unusedVariables false
set_option linter.unusedSimpArgs false
namespace Go.Proofs.Ythcmfjpheanphaa.Pr
open Go.RowKit Go.Proofs.YthcmfjpheanphaaW.PrintWords Go.Proofs.YthcmfjpheanphaaW.PrintLast Go.Proofs.YthcmfjpheanphaaW.PrintMore
attribute [local go_sem] max2_int min2_int max_two min_two max_three min_three max_four min_four
def styluslaw04_vast.l0 : Nat → List (S56) → Int → Option (Bool)
 | 0, _, _ => none
 | k + 1, x0, x3 => if x3 < (x0.length : Int) then (if 0 ≤ x3 then (if (((rd_T56 x0 x3).f1).size : Int) > 100 then (some true) else (styluslaw04_vast.l0 k x0 (wrap64 (x3 + 1)))) else (none)) else (some false)
def styluslaw04_vast.f (k : Nat) (l0 : List (S56)) : Option (Bool) := if (l0.length : Int) > 150 then (some true) else (styluslaw04_vast.l0 k l0 0)
theorem styluslaw04_vast.mono_l : ∀ k, (∀ y0 y1, LeO (styluslaw04_vast.l0 k y0 y1) (styluslaw04_vast.l0 (k + 1) y0 y1))
 | 0 => fun _ _ r h => by simp [styluslaw04_vast.l0] at h
 | k + 1 => by
  have ih0 := styluslaw04_vast.mono_l k
  ·intro y0 y1
   unfold styluslaw04_vast.l0
   repeat' first
   | (with_reducible exact ih0 _ _)
   | (with_reducible exact LeO.refl _)
   | (with_reducible exact LeO.none _)
   | (with_reducible refine LeO.ite ?_ ?_)
   | (with_reducible refine LeO.bind ?_ (fun _ => ?_))
   | exact ih0 _ _
   | exact LeO.none _
   | refine LeO.ite ?_ ?_
   | refine LeO.bind ?_ (fun _ => ?_)
theorem styluslaw04_vast.mono : ∀ a0 k, LeO (styluslaw04_vast.f k a0) (styluslaw04_vast.f (k + 1) a0) := by
 intro a0 k
 have ih0 := styluslaw04_vast.mono_l k
 unfold styluslaw04_vast.f
 repeat' first
   | (with_reducible exact ih0 _ _)
   | (with_reducible exact LeO.refl _)
   | (with_reducible exact LeO.none _)
   | (with_reducible refine LeO.ite ?_ ?_)
   | (with_reducible refine LeO.bind ?_ (fun _ => ?_))
   | exact ih0 _ _
   | exact LeO.none _
   | refine LeO.ite ?_ ?_
   | refine LeO.bind ?_ (fun _ => ?_)
def styluslaw03_LexReads.f (k : Nat) (a0 : ByteArray) : Option (Bool) := if (a0.size : Int) > 9000 then ((styluslaw03_awake.f k).bind fun t101 => (some t101)) else ((lex_Of.f a0).bind fun bt102 => ((stylusref03_Of.f k a0).bind fun bt107 => ((stylusref03_Same.f k bt102.1 bt107.1).bind fun t112 => (if t112 = true then (if bt102.2.1 = bt107.2.1 then (if bt102.2.2 = bt107.2.2 then ((styluslaw03_awake.f k).bind fun t113 => (some t113)) else (some false)) else (some false)) else (some false)))))
theorem styluslaw03_LexReads.mono : ∀ a0 k, LeO (styluslaw03_LexReads.f k a0) (styluslaw03_LexReads.f (k + 1) a0) := by
 intro a0 k
 unfold styluslaw03_LexReads.f
 repeat' first
   | (with_reducible exact styluslaw03_awake.mono _)
   | (with_reducible exact stylusref03_Of.mono _ _)
   | (with_reducible exact stylusref03_Same.mono _ _ _)
   | (with_reducible exact LeO.refl _)
   | (with_reducible exact LeO.none _)
   | (with_reducible refine LeO.ite ?_ ?_)
   | (with_reducible refine LeO.bind ?_ (fun _ => ?_))
   | exact styluslaw03_awake.mono _
   | exact stylusref03_Of.mono _ _
   | exact stylusref03_Same.mono _ _ _
   | exact LeO.none _
   | refine LeO.ite ?_ ?_
   | refine LeO.bind ?_ (fun _ => ?_)
def styluslaw03_LexReads.Pure : Prop := ∀ (a0 : ByteArray), a0.size ≤ 140737488351232 → ∃ k, styluslaw03_LexReads.f k a0 = some true
end Go.Proofs.Ythcmfjpheanphaa.Pr
namespace Go.Proofs.Ythcmfjpheanphaa.Pure
open Go.RowKit Go.Proofs.Ythcmfjpheanphaa.Pr Go.Proofs.YthcmfjpheanphaaW.PrintWords Go.Proofs.YthcmfjpheanphaaW.PrintLast
theorem name_letP (n : ByteArray) (h : n ∈ namesL) : nameP (letP n) = n := by
 have : ∀ y ∈ namesL, nameP (letP y) = y := by decide +kernel
 exact this n h
theorem name_size (n : ByteArray) (h : n ∈ namesL) : 0 < n.size ∧ n.size ≤ 2 := by
 have : ∀ y ∈ namesL, 0 < y.size ∧ y.size ≤ 2 := by decide +kernel
 exact this n h
end Go.Proofs.Ythcmfjpheanphaa.Pure
namespace Go.Proofs.Ythcmfjpheanphaa.Pr
open Go.RowKit Go.Proofs.Ythcmfjpheanphaa.Pure Go.Proofs.YthcmfjpheanphaaW.PrintWords
theorem plainTo_in (t : ByteArray) : ∀ d p j, p ≤ j → j < plainTo t d p → plainP (bt t (j : Int)) = true
 | 0, p, j, h1, h2 => by simp only [plainTo] at h2; omega
 | d + 1, p, j, h1, h2 => by
  simp only [plainTo] at h2
  by_cases hc : p < t.size ∧ plainP (bt t (p : Int)) = true
  ·rw [if_pos hc] at h2
   by_cases e : j = p
   ·subst e; exact hc.2
   ·exact plainTo_in t d (p + 1) j (by omega) h2
  ·rw [if_neg hc] at h2; omega
theorem names_46 : ∀ n ∈ namesL, letP n ≠ 46 := by decide +kernel
def TextAt (s : ByteArray) (b : ByteArray) (p : Int) : Prop := ∃ p0 q : Nat, p = p0 ∧ p0 < q ∧ q ≤ s.size ∧ b = s.extract p0 q ∧ ∀ j : Nat, p0 ≤ j → j < q → plainP (bt s (j : Int)) = true
def OpenAt (s : ByteArray) (k p : Int) : Prop := ∃ p0 : Nat, p = p0 ∧ p0 < s.size ∧ bt s (p0 : Int) = 123 ∧ k ≠ 46 ∧ 0 < (nameP k).size
def LexAt (s : ByteArray) (x : S47) : Prop := (x.f0 = 1 ∧ x.f1 = 0 ∧ TextAt s x.f2 x.f3) ∨ (x.f0 = 2 ∧ x.f2 = ⟨#[]⟩ ∧ OpenAt s x.f1 x.f3) ∨ (x.f0 = 3 ∧ x.f1 = 0 ∧ x.f2 = ⟨#[]⟩ ∧ 0 ≤ x.f3 ∧ x.f3 < s.size)
theorem Lx_at {s : ByteArray} {p : Nat} {l : List S47} (h : Lx s p l) : (∀ x ∈ l, LexAt s x ∧ (p : Int) ≤ x.f3) ∧ (l.map (·.f3)).Pairwise (· < ·) := by
 induction h with
 | done => exact ⟨fun x hx => (by cases hx), List.Pairwise.nil⟩
 | more p x z l hp hx h0 hz hl ih =>
  obtain ⟨z', hz', hz1, hz2⟩ := Lx_spot hp (by rw [hx]; exact h0)
  rw [hx, hz] at hz'
  have hhead : LexAt s x.l ∧ x.l.f3 = (p : Int) := by
   by_cases hc : bt s (p : Int) = 125
   ·rw [next_close s p hp hc] at hx
    subst hx
    exact ⟨.inr (.inr ⟨rfl, rfl, rfl, by show (0 : Int) ≤ (p : Int); omega, by show (p : Int) < _; omega⟩), rfl⟩
   ·by_cases h1 : bt s (p : Int) = 123
    ·rw [next_open s p hp h1] at hx
     cases ho : openN (s.extract p s.size) with
     | none => rw [openP_none s p ho] at hx; subst hx; cases h0
     | some n =>
      unfold openP at hx
      rw [ho] at hx
      subst hx
      have hm := openN_mem ho
      exact ⟨.inr (.inl ⟨rfl, rfl, p, rfl, hp, h1, names_46 n hm, by show 0 < (nameP (letP n)).size; rw [name_letP n hm]; exact (name_size n hm).1⟩), rfl⟩
    ·by_cases h3 : plainP (bt s (p : Int)) = true
     ·obtain ⟨g1, g2⟩ := next_text s p hp h1 hc h3
      rw [g2] at hx
      subst hx
      exact ⟨.inl ⟨rfl, rfl, p, tEnd s p, rfl, g1, (tEnd_le s p (by omega)).2, rfl, fun j h1 h2 => plainTo_in s s.size p j h1 h2⟩, rfl⟩
     ·rw [next_bad s p hp h1 hc h3] at hx
      subst hx; cases h0
  refine ⟨fun y hy => ?_, ?_⟩
  ·rcases List.mem_cons.1 hy with rfl | hy
   ·exact ⟨hhead.1, by omega⟩
   ·have := ih.1 y hy
    exact ⟨this.1, by omega⟩
  ·rw [List.map_cons, List.pairwise_cons]
   refine ⟨fun v hv => ?_, ih.2⟩
   obtain ⟨y, hy, rfl⟩ := List.mem_map.1 hv
   have := (ih.1 y hy).2
   omega
def pp (r : List Opn) : List Nat := r.map fun o => o.pos.toNat
theorem allL_lt (s : ByteArray) : ∀ (d a : Nat), ∀ x ∈ allL s d a, x.1 < s.size
 | 0, a, x, h => by cases h
 | d + 1, a, x, h => by
  simp only [allL] at h
  by_cases hlt : a < s.size
  ·rw [if_pos hlt] at h
   rcases List.mem_cons.1 h with rfl | h
   ·exact hlt
   ·split at h
    ·exact allL_lt s d _ x h
    ·cases h
  ·rw [if_neg hlt] at h; cases h
theorem lexP_place (s : ByteArray) : 0 ≤ (lexP s).2.1 ∧ (lexP s).2.1 ≤ s.size := by
 unfold lexP
 split
 ·exact ⟨Int.le_refl _, by show (0 : Int) ≤ _; omega⟩
 ·split
  ·exact ⟨Int.le_refl _, by show (0 : Int) ≤ _; omega⟩
  ·show 0 ≤ lastAt _ ∧ lastAt _ ≤ _
   unfold lastAt
   split
   ·rename_i x hx
    have := allL_lt s _ _ x (List.mem_of_getLast? hx)
    omega
   ·omega
theorem step_place {src : ByteArray} (hs : src.size ≤ 8192) (s : Bld) (x : S47) (hx : LexAt src x) : 0 ≤ (stepP s x).2.1 ∧ (stepP s x).2.1 ≤ src.size := by
 have h3 : 0 ≤ x.f3 ∧ x.f3 + x.f2.size ≤ src.size := by
  rcases hx with ⟨_, _, p, q, h1, h2, h3, h4, _⟩ | ⟨_, h2, p, h1, h3, _⟩ | ⟨_, _, h2, h1, h3⟩
  ·rw [h4, ByteArray.size_extract]; omega
  ·rw [h2]; show 0 ≤ x.f3 ∧ x.f3 + ((0 : Nat) : Int) ≤ _; omega
  ·rw [h2]; show 0 ≤ x.f3 ∧ x.f3 + ((0 : Nat) : Int) ≤ _; omega
 have h3' : 0 ≤ x.f3 ∧ x.f3 ≤ src.size := by omega
 unfold stepP
 split
 ·unfold textsP
  split
  ·split <;> exact h3'
  ·split
   ·rename_i hb
    show 0 ≤ wrap64 (x.f3 + (blackP x.f2 x.f2.size 0 : Nat)) ∧ wrap64 (x.f3 + (blackP x.f2 x.f2.size 0 : Nat)) ≤ _
    rw [IntWalk.wrap64_in _ ⟨by omega, by omega⟩]
    omega
   ·exact h3'
 ·split
  ·unfold opensP
   split <;> exact h3'
  ·unfold shutsP
   split <;> exact h3'
theorem run_place {src : ByteArray} (hs : src.size ≤ 8192) : ∀ (l : List S47) (s : Bld), (∀ x ∈ l, LexAt src x) → 0 ≤ (runP s l).2.1 ∧ (runP s l).2.1 ≤ src.size
 | [], s, _ => ⟨Int.le_refl _, by show (0 : Int) ≤ _; omega⟩
 | x :: l, s, h => by
  simp only [runP]
  split
  ·exact run_place hs l _ fun y hy => h y (List.mem_cons_of_mem _ hy)
  ·exact step_place hs s x (h x List.mem_cons_self)
theorem parse_place {s : ByteArray} {t : List S56} {a e : Int} (h : parseP s = (t, a, e)) (he : e ≠ 0) : t = [] ∧ 0 ≤ a ∧ a ≤ s.size := by
 unfold parseP at h
 by_cases h1 : (lexP s).2.2 = 0
 ·rw [if_neg (by simpa using h1)] at h
  obtain ⟨k1, k2⟩ := lexP_Lx h1
  have hat : ∀ x ∈ (lexP s).1, LexAt s x := fun x hx => ((Lx_at k1).1 x hx).1
  have hp := run_place k2 (lexP s).1 bld0 hat
  by_cases h2 : (runP bld0 (lexP s).1).2.2 = 0
  ·rw [if_neg (by simpa using h2)] at h
   by_cases h3 : (runP bld0 (lexP s).1).1.row = []
   ·rw [if_neg (by simpa using h3)] at h
    simp only [Prod.mk.injEq] at h
    exact absurd h.2.2.symm he
   ·rw [if_pos h3] at h
    simp only [Prod.mk.injEq] at h
    obtain ⟨rfl, rfl, _⟩ := h
    exact ⟨rfl, by omega, Int.le_refl _⟩
  ·rw [if_pos h2] at h
   simp only [Prod.mk.injEq] at h
   obtain ⟨rfl, rfl, _⟩ := h
   exact ⟨rfl, hp⟩
 ·rw [if_pos h1] at h
  simp only [Prod.mk.injEq] at h
  obtain ⟨rfl, rfl, _⟩ := h
  exact ⟨rfl, lexP_place s⟩
end Go.Proofs.Ythcmfjpheanphaa.Pr
namespace Go.Proofs.Ythcmfjpheanphaa.Pr
open Go.RowKit Go.Maps Go.Proofs.YthcmfjpheanphaaW.PrintWords
attribute [local go_sem] Oper.semAt_some
theorem parse_size {s : ByteArray} (h : (parseP s).2.2 = 0) : (parseP s).1.length ≤ s.size := by
 obtain ⟨p1, p2, p3, p4, p5, p6⟩ := parse_ok (s := s) (t := (parseP s).1) (a := (parseP s).2.1) (by rw [← h])
 have hl := Pure.lexP_length s
 have go : ∀ (l : List S47) (b : Bld) (n : Nat), (∀ x ∈ l, LexOk 1000000 x) → BOk b n → (runP b l).1.t.length ≤ n + l.length := by
  intro l
  induction l with
  | nil => intro b n _ hb; exact hb.t
  | cons x l ih =>
   intro b n hx hb
   have hs := stepP_ok hb (hx x List.mem_cons_self)
   simp only [runP, List.length_cons]
   split
   ·have := ih _ (n + 1) (fun y hy => hx y (List.mem_cons_of_mem _ hy)) hs
    omega
   ·have := hs.t
    omega
 have := go (lexP s).1 bld0 0 (fun x hx => by
  obtain ⟨k1, k2, k3, k4, k5, k6⟩ := (lexP_ok s p3).1 x hx
  exact ⟨k1, k2, k3, by omega, k5, by omega⟩) bld0_ok
 rw [p6]
 omega
end Go.Proofs.Ythcmfjpheanphaa.Pr
namespace Go.Proofs.Ythcmfjpheanphaa.Pure
open Go.RowKit Go.Proofs.Ythcmfjpheanphaa.Pr Go.Proofs.YthcmfjpheanphaaW.PrintWords Go.Proofs.YthcmfjpheanphaaW.PrintLast
theorem lexF_of {s : ByteArray} (h : (lexP s).2.2 = 0) : ∀ x ∈ (lexP s).1, LexF x := by
 intro x hx
 obtain ⟨a, b, c, d, e, f⟩ := (lexP_ok s h).1 x hx
 refine ⟨a, b, c, by omega, fun h2 => ?_⟩
 rcases ((Lx_at (lexP_Lx h).1).1 x hx).1 with ⟨g, _⟩ | ⟨_, _, _, _, _, _, g, _⟩ | ⟨g, _⟩
 ·omega
 ·exact g
 ·omega
theorem refParse_f (s : ByteArray) (k : Nat) (hk : 2 * s.size + 3100000 ≤ k) : stylusref04_Parse.f k s = some (parseP s) := by
 unfold stylusref04_Parse.f
 rw [refOf_f s k (by omega), Option.bind_some]
 by_cases h0 : (lexP s).2.2 = 0
 ·rw [if_pos h0]
  have hlen := (lexP_ok s h0).2
  rw [parse_ref s _ (by omega) (lexF_of h0) k (by omega)]
  congr 1
  have hp : parseP s = outAns s (runP bld0 (lexP s).1) := by
   unfold parseP outAns
   rw [if_neg (show ¬ (lexP s).2.2 ≠ 0 from fun h => h h0)]
  rw [hp]
  rfl
 ·rw [if_neg h0]
  unfold parseP
  rw [if_pos h0]
theorem parse_len (s : ByteArray) : (parseP s).1.length ≤ s.size := by
 by_cases h : (parseP s).2.2 = 0
 ·exact parse_size h
 ·have := (parse_place (s := s) (t := (parseP s).1) (a := (parseP s).2.1) (e := (parseP s).2.2) rfl h).1
  rw [this]
  exact Nat.zero_le _
theorem TreeParses : styluslaw04_TreeParses.Pure := by
 intro s hs
 refine ⟨2 * s.size + 3100002, ?_⟩
 have hj : ∀ b : Bool, (b = false → s.size ≤ 700 ∨ 8192 < s.size) → styluslaw04_TreeParses.j0 (2 * s.size + 3100002) s b = some true := fun b hb => by
  rw [styluslaw04_TreeParses.j0]
  cases b with
  | true => rfl
  | false =>
   have hn := parse_len s
   have hlen : (parseP s).1.length ≤ 8192 := by
    rcases hb rfl with h | h
    ·omega
    ·have : parseP s = ([], (lexP s).2.1, (lexP s).2.2) := by
      unfold parseP
      have : (lexP s).2.2 ≠ 0 := fun h0 => by have := (lexP_Lx h0).2; omega
      rw [if_pos this]
     rw [this]
     exact Nat.zero_le _
   have hlike := like_f (parseP s).1 (by omega) (2 * s.size + 3100001) (by omega)
   have ht : tree_Parse.f s = some (parseP s) := by unfold tree_Parse.f; rw [if_pos hs]
   rw [if_neg (by decide), ht, refParse_f s _ (by omega)]
   refine (Option.bind_some _ _).trans ?_
   refine (Option.bind_some _ _).trans ?_
   rw [hlike]
   refine (Option.bind_some _ _).trans ?_
   rw [if_pos rfl, if_pos rfl, if_pos rfl]
   rfl
 unfold styluslaw04_TreeParses.f
 by_cases h1 : (s.size : Int) > 700
 ·rw [if_pos h1]
  exact hj _ (fun h => by simp at h; omega)
 ·rw [if_neg h1]
  exact hj _ (fun _ => by omega)
end Go.Proofs.Ythcmfjpheanphaa.Pure
