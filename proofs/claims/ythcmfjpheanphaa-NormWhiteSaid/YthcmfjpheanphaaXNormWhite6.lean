/- Texts of this seat, one behind the other. -/
import Derived.Laws.EntriesVeiled
import Derived.Lib.OthersKept
import Derived.Lib.DecodeN
import Derived.Deep.LoopGhost
import Derived.Outline
import Derived.Test.YthcmfjpheanphaaXNormWhite1
import Derived.Test.YthcmfjpheanphaaXNormWhite2
import Derived.Test.YthcmfjpheanphaaXNormWhite3
import Derived.Test.YthcmfjpheanphaaXNormWhite4
import Derived.Test.YthcmfjpheanphaaXNormWhite5
set_option linter.unusedVariables false
set_option linter.unusedSimpArgs false
namespace Go.Proofs.Ythcmfjpheanphaa.Pure
open Go.RowKit Go.Proofs.Ythcmfjpheanphaa.Pr Go.Proofs.YthcmfjpheanphaaW.PrintWords Go.Proofs.YthcmfjpheanphaaW.PrintLast
def lexGo (s : ByteArray) : Nat → Nat → List S47 → List S47 × Int × Int
 | 0, _, acc => (acc, 0, 0)
 | d + 1, at_, acc => if at_ < s.size then (if (nextP (s.extract at_ s.size) at_).e = 0 then lexGo s d (at_ + (nextP (s.extract at_ s.size) at_).size.toNat) (acc ++ [(nextP (s.extract at_ s.size) at_).l]) else ([], at_, (nextP (s.extract at_ s.size) at_).e)) else (acc, 0, 0)
def outL (acc : List S47) (L : List (Nat × Spot)) : List S47 × Int × Int := if lastE L = 0 then (acc ++ lexes L, 0, 0) else ([], lastAt L, lastE L)
theorem outL_nil (acc : List S47) : outL acc [] = (acc, 0, 0) := by simp [outL, lastE, lexes]
theorem outL_cons (acc : List S47) (x y : Nat × Spot) (L : List (Nat × Spot)) : outL acc (x :: y :: L) = outL (acc ++ [x.2.l]) (y :: L) := by
 have e1 : lastE (x :: y :: L) = lastE (y :: L) := by simp [lastE]
 have e2 : lastAt (x :: y :: L) = lastAt (y :: L) := by simp [lastAt]
 unfold outL
 rw [e2, show lexes (x :: y :: L) = x.2.l :: lexes (y :: L) from rfl]
 simp [e1]
theorem lexGo_all (s : ByteArray) : ∀ (d at_ : Nat) (acc : List S47), lexGo s d at_ acc = outL acc (allL s d at_)
 | 0, at_, acc => by simp only [lexGo, allL, outL_nil]
 | d + 1, at_, acc => by
  simp only [lexGo, allL]
  by_cases h : at_ < s.size
  ·rw [if_pos h, if_pos h]
   by_cases he : (nextP (s.extract at_ s.size) at_).e = 0
   ·rw [if_pos he, if_pos he, lexGo_all s d]
    generalize allL s d (at_ + (nextP (s.extract at_ s.size) at_).size.toNat) = L
    cases L with
    | nil => simp [outL, lastE, lexes, he]
    | cons y L => rw [outL_cons]
   ·rw [if_neg he, if_neg he]
    simp [outL, lastE, lastAt, he]
  ·rw [if_neg h, if_neg h, outL_nil]
theorem lexP_go (s : ByteArray) (h : s.size ≤ 8192) : lexP s = lexGo s s.size 0 [] := by
 unfold lexP
 rw [if_neg (by omega), lexGo_all]
 simp [outL]
theorem ext_ext (s : ByteArray) (a i j : Nat) (h : a + j ≤ s.size) : (s.extract a s.size).extract i j = s.extract (a + i) (a + j) := by
 rw [ByteArray.extract_extract]
 congr 1
 omega
theorem plainTo_ext (s : ByteArray) (p : Nat) (hp : p ≤ s.size) : ∀ d j, p + j ≤ s.size → p + plainTo (s.extract p s.size) d j = plainTo s d (p + j)
 | 0, j, _ => rfl
 | d + 1, j, hj => by
  simp only [plainTo]
  have hsz : (s.extract p s.size).size = s.size - p := by rw [ByteArray.size_extract]; omega
  by_cases h : p + j < s.size
  ·have hb : bt (s.extract p s.size) (j : Int) = bt s ((p + j : Nat) : Int) := bt_extract s p s.size (Nat.le_refl _) j h
   rw [hb, hsz]
   by_cases hpl : plainP (bt s ((p + j : Nat) : Int)) = true
   ·rw [if_pos ⟨by omega, hpl⟩, if_pos ⟨h, hpl⟩]
    exact plainTo_ext s p hp d (j + 1) (by omega)
   ·rw [if_neg (fun h => hpl h.2), if_neg (fun h => hpl h.2)]
  ·rw [if_neg (fun h' => by omega), if_neg (fun h' => by omega)]
theorem plainTo_le (t : ByteArray) : ∀ d q, q ≤ plainTo t d q
 | 0, q => Nat.le_refl _
 | d + 1, q => by
  simp only [plainTo]
  split
  ·have := plainTo_le t d (q + 1); omega
  ·exact Nat.le_refl _
theorem plainTo_more (t : ByteArray) : ∀ d e q, t.size ≤ d + q → t.size ≤ e + q → plainTo t d q = plainTo t e q
 | 0, e, q, h, _ => by rw [plainTo_stop t e q (fun h' => by omega)]; rfl
 | d + 1, 0, q, _, h => by rw [plainTo_stop t (d + 1) q (fun h' => by omega)]; rfl
 | d + 1, e + 1, q, h, h' => by
  simp only [plainTo]
  split
  ·exact plainTo_more t d e (q + 1) (by omega) (by omega)
  ·rfl
theorem plainTo_out (t : ByteArray) : ∀ d p, t.size ≤ d + p → plainTo t d p < t.size → ¬ plainP (bt t ((plainTo t d p : Nat) : Int)) = true
 | 0, p, h, h2 => by simp only [plainTo] at h2; omega
 | d + 1, p, h, h2 => by
  simp only [plainTo] at h2 ⊢
  split at h2
  ·rename_i hc
   rw [if_pos hc]
   exact plainTo_out t d (p + 1) (by omega) h2
  ·rename_i hc
   rw [if_neg hc]
   exact fun e => hc ⟨h2, e⟩
def tEnd (s : ByteArray) (q : Nat) : Nat := plainTo s s.size q
theorem tEnd_step (s : ByteArray) (q : Nat) (h : q < s.size) (hp : plainP (bt s (q : Int)) = true) : tEnd s q = tEnd s (q + 1) := by
 unfold tEnd
 obtain ⟨n, hn⟩ : ∃ n, s.size = n + 1 := ⟨s.size - 1, by omega⟩
 have : plainTo s (n + 1) q = plainTo s n (q + 1) := by
  simp only [plainTo]; rw [if_pos ⟨h, hp⟩]
 rw [hn, this]
 exact plainTo_more s n (n + 1) (q + 1) (by omega) (by omega)
theorem tEnd_stop (s : ByteArray) (q : Nat) (h : ¬ (q < s.size ∧ plainP (bt s (q : Int)) = true)) : tEnd s q = q := plainTo_stop s _ q h
theorem tEnd_le (s : ByteArray) (q : Nat) (h : q ≤ s.size) : q ≤ tEnd s q ∧ tEnd s q ≤ s.size := ⟨plainTo_le s _ q, plainTo_size s _ q h⟩
theorem nextP_at (s : ByteArray) (p : Nat) (hp : p < s.size) :
  nextP (s.extract p s.size) p = if bt s (p : Int) = 123 then openP (s.extract p s.size) p else if bt s (p : Int) = 125 then ⟨⟨3, 0, ⟨#[]⟩, p⟩, 1, 0⟩
   else if tEnd s p = p then ⟨⟨0, 0, ⟨#[]⟩, 0⟩, 0, 3⟩ else ⟨⟨1, 0, s.extract p (tEnd s p), p⟩, ((tEnd s p - p : Nat) : Int), 0⟩ := by
 have hb : bt (s.extract p s.size) 0 = bt s (p : Int) := bt_extract s p s.size (Nat.le_refl _) 0 hp
 have hsz : (s.extract p s.size).size = s.size - p := by rw [ByteArray.size_extract]; omega
 have ht : p + plainTo (s.extract p s.size) (s.extract p s.size).size 0 = tEnd s p := by
  rw [plainTo_ext s p (by omega) _ 0 (by omega), hsz]
  exact plainTo_more s _ _ p (by omega) (by omega)
 have hle := tEnd_le s p (by omega)
 unfold nextP
 rw [hb]
 generalize plainTo (s.extract p s.size) (s.extract p s.size).size 0 = z at *
 split
 ·rfl
 ·split
  ·rfl
  ·by_cases hz : z = 0
   ·rw [if_pos hz, if_pos (by omega)]
   ·rw [if_neg hz, if_neg (by omega), ext_ext s p 0 z (by omega)]
    rw [show p + z = tEnd s p from ht, Nat.add_zero, show z = tEnd s p - p by omega]
theorem lexGo_step (s : ByteArray) (d at_ : Nat) (acc : List S47) (x : Spot) (hat : at_ < s.size) (hx : nextP (s.extract at_ s.size) at_ = x) (z : Nat) (h0 : x.e = 0) (hz : x.size = (z : Int)) :
  lexGo s (d + 1) at_ acc = lexGo s d (at_ + z) (acc ++ [x.l]) := by
 simp only [lexGo]
 rw [if_pos hat, hx, if_pos h0, hz, Int.toNat_natCast]
theorem lexGo_bad (s : ByteArray) (d at_ : Nat) (acc : List S47) (x : Spot) (hat : at_ < s.size) (hx : nextP (s.extract at_ s.size) at_ = x) (h0 : x.e ≠ 0) :
  lexGo s (d + 1) at_ acc = ([], (at_ : Int), x.e) := by
 simp only [lexGo]
 rw [if_pos hat, hx, if_neg h0]
theorem next_close (s : ByteArray) (p : Nat) (hp : p < s.size) (h : bt s (p : Int) = 125) : nextP (s.extract p s.size) p = ⟨⟨3, 0, ⟨#[]⟩, p⟩, 1, 0⟩ := by
 rw [nextP_at s p hp]
 have h1 : ¬ bt s (p : Int) = 123 := fun e => by rw [h] at e; exact absurd e (by decide)
 rw [if_neg h1, if_pos h]
theorem next_open (s : ByteArray) (p : Nat) (hp : p < s.size) (h : bt s (p : Int) = 123) : nextP (s.extract p s.size) p = openP (s.extract p s.size) p := by
 rw [nextP_at s p hp, if_pos h]
theorem next_text (s : ByteArray) (p : Nat) (hp : p < s.size) (h1 : bt s (p : Int) ≠ 123) (h2 : bt s (p : Int) ≠ 125) (h3 : plainP (bt s (p : Int)) = true) : p < tEnd s p ∧ nextP (s.extract p s.size) p = ⟨⟨1, 0, s.extract p (tEnd s p), p⟩, ((tEnd s p - p : Nat) : Int), 0⟩ := by
 have hst := tEnd_step s p hp h3
 have hle := tEnd_le s (p + 1) (by omega)
 have hlt : p < tEnd s p := by omega
 refine ⟨hlt, ?_⟩
 rw [nextP_at s p hp, if_neg h1, if_neg h2, if_neg (by omega)]
theorem next_bad (s : ByteArray) (p : Nat) (hp : p < s.size) (h1 : bt s (p : Int) ≠ 123) (h2 : bt s (p : Int) ≠ 125) (h3 : ¬ plainP (bt s (p : Int)) = true) : nextP (s.extract p s.size) p = ⟨⟨0, 0, ⟨#[]⟩, 0⟩, 0, 3⟩ := by
 rw [nextP_at s p hp, if_neg h1, if_neg h2, if_pos (tEnd_stop s p (fun h => h3 h.2))]
theorem openP_none (s : ByteArray) (p : Nat) (hn : openN (s.extract p s.size) = none) : openP (s.extract p s.size) p = ⟨⟨0, 0, ⟨#[]⟩, 0⟩, 0, 2⟩ := by
 unfold openP; rw [hn]
theorem allL_length (s : ByteArray) : ∀ d at_, (allL s d at_).length ≤ d
 | 0, _ => Nat.le_refl _
 | d + 1, at_ => by
  simp only [allL]
  split
  ·simp only [List.length_cons]
   split
   ·have := allL_length s d (at_ + (nextP (s.extract at_ s.size) at_).size.toNat); omega
   ·simp
  ·simp
theorem lexP_length (s : ByteArray) : (lexP s).1.length ≤ s.size := by
 unfold lexP
 split
 ·simp
 ·split
  ·simp only [lexes_length]; exact allL_length s s.size 0
  ·simp
end Go.Proofs.Ythcmfjpheanphaa.Pure
namespace Go.Proofs.Ythcmfjpheanphaa.Pr
open Go.RowKit Go.Proofs.YthcmfjpheanphaaW.PrintWords
def parseP (s : ByteArray) : List S56 × Int × Int :=
 if (lexP s).2.2 ≠ 0 then ([], (lexP s).2.1, (lexP s).2.2)
 else if (runP bld0 (lexP s).1).2.2 ≠ 0 then ([], (runP bld0 (lexP s).1).2.1, (runP bld0 (lexP s).1).2.2)
 else if (runP bld0 (lexP s).1).1.row ≠ [] then ([], s.size, 2)
 else ((runP bld0 (lexP s).1).1.t, 0, 0)
end Go.Proofs.Ythcmfjpheanphaa.Pr
namespace Go.Proofs.Ythcmfjpheanphaa.Pr
open Go.RowKit Go.Proofs.Ythcmfjpheanphaa.Pure Go.Proofs.YthcmfjpheanphaaW.PrintWords
inductive Lx (s : ByteArray) : Nat → List S47 → Prop
 | done : Lx s s.size []
 | more (p : Nat) (x : Spot) (z : Nat) (l : List S47) (hp : p < s.size) (hx : nextP (s.extract p s.size) p = x) (h0 : x.e = 0) (hz : x.size = (z : Int)) (hl : Lx s (p + z) l) : Lx s p (x.l :: l)
theorem Lx_spot {s : ByteArray} {p : Nat} (hp : p < s.size) (h0 : (nextP (s.extract p s.size) p).e = 0) : ∃ z : Nat, (nextP (s.extract p s.size) p).size = z ∧ 1 ≤ z ∧ p + z ≤ s.size := by
 have hok := nextP_ok (s.extract p s.size) p (by rw [ByteArray.size_extract]; omega) h0
 rw [ByteArray.size_extract] at hok
 exact ⟨(nextP (s.extract p s.size) p).size.toNat, by omega, by omega, by omega⟩
theorem Lx_go (s : ByteArray) : ∀ (d p : Nat) (acc : List S47), s.size ≤ d + p → p ≤ s.size → (lexGo s d p acc).2.2 = 0 → ∃ l, (lexGo s d p acc).1 = acc ++ l ∧ Lx s p l
 | 0, p, acc, hd, hp, _ => by
  obtain rfl : p = s.size := by omega
  exact ⟨[], by simp [lexGo], .done⟩
 | d + 1, p, acc, hd, hp, h => by
  by_cases hlt : p < s.size
  ·by_cases h0 : (nextP (s.extract p s.size) p).e = 0
   ·obtain ⟨z, hz, h1, h2⟩ := Lx_spot hlt h0
    rw [lexGo_step s d p acc _ hlt rfl z h0 hz] at h ⊢
    obtain ⟨l, hl, hx⟩ := Lx_go s d (p + z) _ (by omega) h2 h
    exact ⟨_, by rw [hl, List.append_assoc]; rfl, .more p _ z l hlt rfl h0 hz hx⟩
   ·rw [lexGo_bad s d p acc _ hlt rfl h0] at h
    exact absurd h h0
  ·obtain rfl : p = s.size := by omega
   simp only [lexGo]
   rw [if_neg hlt]
   exact ⟨[], by simp, .done⟩
theorem lexP_Lx {s : ByteArray} (h : (lexP s).2.2 = 0) : Lx s 0 (lexP s).1 ∧ s.size ≤ 8192 := by
 by_cases hs : s.size ≤ 8192
 ·rw [lexP_go s hs] at h ⊢
  obtain ⟨l, hl, hx⟩ := Lx_go s s.size 0 [] (by omega) (by omega) h
  rw [hl]
  exact ⟨hx, hs⟩
 ·unfold lexP at h
  rw [if_pos (by omega)] at h
  cases h
def LexOk (N : Nat) (x : S47) : Prop := (x.f0 = 1 ∨ x.f0 = 2 ∨ x.f0 = 3) ∧ 0 ≤ x.f1 ∧ x.f1 ≤ 255 ∧ x.f2.size ≤ N ∧ 0 ≤ x.f3 ∧ x.f3 ≤ N
theorem letP_range : ∀ n ∈ namesL, 0 ≤ letP n ∧ letP n ≤ 255 := by decide +kernel
theorem openN_mem {s n : ByteArray} (h : openN s = some n) : n ∈ namesL := by
 unfold openN at h
 exact List.mem_of_find?_eq_some h
theorem Lx_ok {s : ByteArray} {p : Nat} {l : List S47} (h : Lx s p l) : ∀ x ∈ l, LexOk s.size x := by
 induction h with
 | done => exact fun x hx => by cases hx
 | more p x z l hp hx h0 hz hl ih =>
  intro y hy
  rcases List.mem_cons.1 hy with rfl | hy
  ·by_cases hc : bt s (p : Int) = 125
   ·rw [next_close s p hp hc] at hx
    subst hx
    exact ⟨.inr (.inr rfl), by show (0 : Int) ≤ 0; omega, by show (0 : Int) ≤ 255; omega, Nat.zero_le _, by show (0 : Int) ≤ (p : Int); omega, by show (p : Int) ≤ _; omega⟩
   ·by_cases h1 : bt s (p : Int) = 123
    ·rw [next_open s p hp h1] at hx
     cases ho : openN (s.extract p s.size) with
     | none => rw [openP_none s p ho] at hx; subst hx; cases h0
     | some n =>
      unfold openP at hx
      rw [ho] at hx
      subst hx
      have := letP_range n (openN_mem ho)
      exact ⟨.inr (.inl rfl), this.1, this.2, Nat.zero_le _, by show (0 : Int) ≤ (p : Int); omega, by show (p : Int) ≤ _; omega⟩
    ·by_cases h3 : plainP (bt s (p : Int)) = true
     ·rw [(next_text s p hp h1 hc h3).2] at hx
      subst hx
      exact ⟨.inl rfl, by show (0 : Int) ≤ 0; omega, by show (0 : Int) ≤ 255; omega, by show (s.extract p (tEnd s p)).size ≤ _; rw [ByteArray.size_extract]; omega, by show (0 : Int) ≤ (p : Int); omega, by show (p : Int) ≤ _; omega⟩
     ·rw [next_bad s p hp h1 hc h3] at hx
      subst hx; cases h0
  ·exact ih y hy
theorem lexP_ok (s : ByteArray) (h : (lexP s).2.2 = 0) : (∀ x ∈ (lexP s).1, LexOk 8192 x) ∧ (lexP s).1.length ≤ 8192 := by
 obtain ⟨h1, h2⟩ := lexP_Lx h
 refine ⟨fun x hx => ?_, Nat.le_trans (lexP_length s) h2⟩
 obtain ⟨k1, k2, k3, k4, k5, k6⟩ := Lx_ok h1 x hx
 exact ⟨k1, k2, k3, by omega, k5, by omega⟩
end Go.Proofs.Ythcmfjpheanphaa.Pr
namespace Go.Proofs.Ythcmfjpheanphaa.Pr
open Go.RowKit Go.Maps Go.Proofs.YthcmfjpheanphaaW.PrintWords
attribute [local go_sem] Oper.semAt_some
theorem flat56_at (xs : List S56) : ∀ (j : Nat) (p : S56), xs[j]? = some p → ((flat56 xs).drop (j * 4)).take 4 = [.int .u8 p.f0, .string p.f1, .int .i64 p.f2, .int .i64 p.f3] := by
 induction xs with
 | nil => intro j p h; simp at h
 | cons x xs ih =>
  intro j p h
  cases j with
  | zero => simp at h; subst h; simp [flat56]
  | succ j =>
   have := ih j p (by simpa using h)
   rw [Nat.succ_mul]
   simp only [flat56, List.flatMap_cons] at this ⊢
   rw [show ∀ l : List Value, (([.int .u8 x.f0, .string x.f1, .int .i64 x.f2, .int .i64 x.f3] : List Value) ++ l).drop (j * 4 + 4) = l.drop (j * 4) from fun l => rfl]
   exact this
theorem own_R56 {w : World} {base : Nat} {v : Value} {xs : List S56} (h : w.ownsRow base 56 4 v xs.length (flat56 xs)) (b' : Nat) (hb : b' ≤ base) : Kd.R k56 56 w b' (fun _ => True) v xs := by
 refine Kd.R_lower (base := base) ⟨fun _ _ => trivial, flat56 xs, h, flat56_length xs, fun j p hp => ?_⟩ hb
 have := flat56_at xs j p hp
 show k56.M _ _ _ _ (((flat56 xs).drop (j * 4)).take 4)
 rw [this]
 exact k56_mkM _ _ _ _
theorem R47_keep {w w1 : World} {base : Nat} {v : Value} {xs : List S47} (h : Kd.R k47 47 w base (fun _ => True) v xs) (hk : KeepK w w1) : Kd.R k47 47 w1 base (fun _ => True) v xs := by
 refine Kd.R_mono (Kd.R_move (Kd.R_bound h) fun k hk' => ?_) fun _ _ => trivial
 obtain ⟨_, _, _, q, hq, cells, hc⟩ := hk'
 have hq' : q = 47 := by
  have e : (k47.E : List Nat) = [] := rfl
  rw [e] at hq
  simpa using hq
 subst hq'
 rw [hc]
 exact hk _ _ hc rfl
def stepF (k : Int) : Nat := if k = 1 then 92 else if k = 2 then 93 else 94
theorem step_calls (B0 g m : Nat) (vr vt : Value) (s : Bld) (x : S47) (w : World) (hx : LexOk 1000000 x) (hB0 : B0 ≤ w.heap.size) (hn : s.row.length ≤ 999999) (hnt : s.t.length ≤ 999999) (hkb : KindsB s.row) (hpos : PosIn s) (hch : RChain s.row) (hb : BAt w B0 g m vr vt s) :
  Calls Try.prog (stepF x.f0) #[.pointer (some ⟨g, 0, none⟩), .agg #[.int .i64 x.f0, .int .u8 x.f1, .string x.f2, .int .i64 x.f3]] w fun e w' =>
   e = .returned (.tuple #[.int .i64 (stepP s x).2.1, .int .i64 (stepP s x).2.2]) ∧ StepTo B0 g m (stepP s x).1 w w' := by
 obtain ⟨h0, h1, h2, h3, _⟩ := hx
 unfold stepP stepF
 by_cases e1 : x.f0 = 1
 ·simp only [if_pos e1]
  exact texts_calls B0 g m vr vt s x w hB0 h3 hn hnt hkb hb
 ·simp only [if_neg e1]
  by_cases e2 : x.f0 = 2
  ·simp only [if_pos e2]
   exact opens_calls B0 g m vr vt s x w hB0 h1 h2 hn hnt hkb hb
  ·simp only [if_neg e2]
   exact shuts_calls B0 g m vr vt s x w hB0 hn hnt hkb hpos hch hb
structure BOk (s : Bld) (n : Nat) : Prop where
 row : s.row.length ≤ n
 t : s.t.length ≤ n
 kinds : KindsB s.row
 pos : PosIn s
 chain : RChain s.row
theorem kinds_modB {r : List Opn} (h : KindsB r) (f : Opn → Opn) (hf : ∀ o, (f o).kind = o.kind) (j : Nat) : KindsB (r.modify j f) := by
 intro o ho
 obtain ⟨y, hy, rfl | rfl⟩ := mem_modify ho
 ·exact h _ hy
 ·rw [hf]; exact h y hy
theorem kindsB_mark {r : List Opn} (h : KindsB r) (k : Int) : KindsB (markP r k) := by
 unfold markP
 split
 ·split
  ·exact kinds_modB h noteF (fun _ => rfl) _
  ·exact h
 ·split
  ·exact kinds_modB h pastF (fun _ => rfl) _
  ·exact h
theorem stepP_ok {s : Bld} {n : Nat} (h : BOk s n) {x : S47} (hx : LexOk 1000000 x) : BOk (stepP s x).1 (n + 1) := by
 obtain ⟨h1, h2, h3, h4, h5⟩ := h
 have hl : (stepP s x).1.row.length ≤ n + 1 ∧ (stepP s x).1.t.length ≤ n + 1 ∧ KindsB (stepP s x).1.row := by
  unfold stepP
  split
  ·unfold textsP
   split
   ·split
    ·exact ⟨by simp [kidP_length]; omega, by simp; omega, kinds_modB (kindsB_kid h3) (textF x.f2.size) (fun _ => rfl) _⟩
    ·exact ⟨by simp [kidP_length]; omega, by simp; omega, kindsB_kid h3⟩
   ·split <;> exact ⟨by show s.row.length ≤ _; omega, by show s.t.length ≤ _; omega, h3⟩
  ·split
   ·unfold opensP
    split
    ·refine ⟨by simp [kidP_length, markP_length]; omega, by simp; omega, fun o ho => ?_⟩
     simp only [List.mem_append, List.mem_singleton] at ho
     rcases ho with ho | rfl
     ·exact kindsB_kid (kindsB_mark h3 _) o ho
     ·exact ⟨hx.2.1, hx.2.2.1⟩
    ·exact ⟨by show s.row.length ≤ _; omega, by show s.t.length ≤ _; omega, h3⟩
   ·unfold shutsP
    split
    ·exact ⟨by show s.row.length ≤ _; omega, by show s.t.length ≤ _; omega, h3⟩
    ·have hd : KindsB s.row.dropLast := fun o ho => h3 o (List.dropLast_subset _ ho)
     have hwl : ∀ o, ((wholeP s.row.dropLast o).1).length = s.row.dropLast.length := fun o => by
      unfold wholeP
      split
      ·rfl
      ·split
       ·split
        ·split
         ·exact List.length_modify ..
         ·rfl
        ·rfl
       ·rfl
     refine ⟨by show ((wholeP s.row.dropLast _).1).length ≤ _; rw [hwl, List.length_dropLast]; omega, by simp; omega, ?_⟩
     show KindsB (wholeP s.row.dropLast (topP s.row)).1
     unfold wholeP
     split
     ·exact hd
     ·split
      ·split
       ·split
        ·exact kinds_modB hd (colsF (topP s.row).kids) (fun _ => rfl) _
        ·exact hd
       ·exact hd
      ·exact hd
 exact ⟨hl.1, hl.2.1, hl.2.2, stepP_pos s x h4, stepP_chain s x h5⟩
theorem bld0_ok : BOk bld0 0 := ⟨Nat.le_refl _, Nat.le_refl _, (by intro o ho; cases ho), (by intro o ho; cases ho), (by intro i hi; simp [bld0] at hi)⟩
theorem step_keep {B0 g m : Nat} {s : Bld} {W4 W : World} {b : Bool} (h : cond b (StepTo B0 g m s W4 W) (W = W4)) {i : Nat} {o : Obj} (ho : W4.heap[i]? = some o) (hn : isBT o = false) : W.heap[i]? = some o := by
 cases b
 ·obtain rfl : W = W4 := h
  exact ho
 ·obtain ⟨_, _, _, _, hk⟩ := (show StepTo B0 g m s W4 W from h)
  exact hk _ _ ho hn
def ParseTo (a0 : ByteArray) (w : World) (e : Ending) (w' : World) : Prop := ∃ v0_ : Value, e = .returned (.tuple #[v0_, .int .i64 (parseP a0).2.1, .int .i64 (parseP a0).2.2]) ∧ Kd.R k56 56 w' w.heap.size (fun _ => True) v0_ (parseP a0).1 ∧ Below w.heap.size w w'
theorem parse_bad {a0 : ByteArray} {l : List S47} {a e : Int} (h : lexP a0 = (l, a, e)) (he : e ≠ 0) : parseP a0 = ([], a, e) := by
 unfold parseP
 rw [h]
 simp only
 rw [if_pos he]
theorem parse_run {a0 : ByteArray} {l : List S47} {a : Int} (h : lexP a0 = (l, a, 0)) : parseP a0 = if (runP bld0 l).2.2 ≠ 0 then ([], (runP bld0 l).2.1, (runP bld0 l).2.2) else if (runP bld0 l).1.row ≠ [] then ([], a0.size, 2) else ((runP bld0 l).1.t, 0, 0) := by
 unfold parseP
 rw [h]
 simp only
 rw [if_neg (by decide)]
set_option pp.maxSteps 3000 in
set_option maxRecDepth 100000 in
set_option maxHeartbeats 8000000 in
theorem parse_calls (a0 : ByteArray) (w : World) (hs : a0.size ≤ 140737488351232) : Calls Try.prog 53 #[.string a0] w (ParseTo a0 w) := by
 obtain ⟨⟨l, a, e⟩, hl⟩ : ∃ r, lexP a0 = r := ⟨_, rfl⟩
 have hlex := fun W => lex_Of.calls a0 l a e W (by unfold lex_Of.f; rw [hl])
 have HL := Lib.hid hlex
 have HLP := Lib.hid hl
 clear hlex hl
 by_cases he : e = 0
 ·subst he
  have hP := parse_run HLP.out
  have HP := Lib.hid hP
  obtain ⟨hok, hlen⟩ := lexP_ok a0 (by rw [HLP.out])
  rw [HLP.out] at hok hlen
  simp only at hok hlen
  have HOK := Lib.hid (fun x hx => show LexOk 1000000 x from by
   obtain ⟨k1, k2, k3, k4, k5, k6⟩ := hok x hx
   exact ⟨k1, k2, k3, by omega, k5, by omega⟩)
  clear hP hok
  go_enter Try.func53, Try.ntmps53
  go_wp2_with fail
  refine (HL.out _).mono ?_
  rintro e w1 ⟨v, rfl, hR, hb1⟩
  obtain ⟨A, c, rfl, hc, hC⟩ := Kd.R_reads hR
  have HR := Lib.hid hR
  have HB1 := Lib.hid hb1
  clear hR hb1 hC
  go_wp2_with fail
  refine (begin_calls w1).mono ?_
  rintro e w2 ⟨g, m, rfl, hb, hb2⟩
  have HB := Lib.hid hb
  have HB2 := Lib.hid hb2
  clear hb hb2
  go_wp2_with fail
  have hW3 : Below w2.heap.size w2 (w2.alloc (.cells #[.nilFunc, .func (.func 92) #[.pointer (some ⟨g, 0, none⟩)] #[], .func (.func 93) #[.pointer (some ⟨g, 0, none⟩)] #[], .func (.func 94) #[.pointer (some ⟨g, 0, none⟩)] #[]] 98)) := (Below.refl _ _).alloc (Nat.le_refl _) _
  have hS3 := blk_new w2 (.cells #[.nilFunc, .func (.func 92) #[.pointer (some ⟨g, 0, none⟩)] #[], .func (.func 93) #[.pointer (some ⟨g, 0, none⟩)] #[], .func (.func 94) #[.pointer (some ⟨g, 0, none⟩)] #[]] 98)
  obtain ⟨W3, hW3'⟩ : ∃ W3, w2.alloc (.cells #[.nilFunc, .func (.func 92) #[.pointer (some ⟨g, 0, none⟩)] #[], .func (.func 93) #[.pointer (some ⟨g, 0, none⟩)] #[], .func (.func 94) #[.pointer (some ⟨g, 0, none⟩)] #[]] 98) = W3 := ⟨_, rfl⟩
  rw [hW3'] at hW3 hS3 ⊢
  clear hW3'
  have HB3 := Lib.hid (HB.out.below hW3)
  have HS3 := Lib.hid hS3
  have HR3 := Lib.hid (R47_keep HR.out (KeepK.below (HB2.out.trans (hW3.mono HB2.out.size))))
  have HL3 := Lib.hid (HB1.out.trans ((HB2.out.trans (hW3.mono HB2.out.size)).mono HB1.out.size))
  have hz3 : w1.heap.size ≤ W3.heap.size := Nat.le_trans HB2.out.size hW3.size
  have HZ3 := Lib.hid hz3
  have HZ1 := Lib.hid HB1.out.size
  clear hW3 hS3 HR HB1 HB2 HB
  go_loopw [32] (fun v wr => ∃ (k : Nat) (s : Bld) (vr vt : Value), k ≤ l.length ∧ v = .int .i64 k ∧ BAt wr w1.heap.size g m vr vt s ∧ BOk s k ∧ Below w1.heap.size W3 wr ∧ KeepK W3 wr ∧ runP bld0 l = runP s (l.drop k)) (fun v _ => l.length - (intOf v).toNat)
  case atStart => exact ⟨0, bld0, _, _, Nat.zero_le _, rfl, HB3.out, bld0_ok, Below.refl _ _, KeepK.refl _, rfl⟩
  case round =>
   obtain ⟨k, s, vr, vt, hk, rfl, hb, hbk, hlow, hkeep, hrun⟩ := hrel
   have HBA := Lib.hid hb
   have HBK := Lib.hid hbk
   have HLO := Lib.hid hlow
   have HKE := Lib.hid hkeep
   have HRU := Lib.hid hrun
   clear hb hbk hlow hkeep hrun
   by_cases hlt : k < l.length
   ·have hlt1 : (k : Int) < (l.length : Int) := by omega
    have hRw := R47_keep HR3.out HKE.out
    obtain ⟨A', c', he', _, hC⟩ := Kd.R_reads hRw
    simp only [Value.slice.injEq] at he'
    obtain ⟨rfl, -, rfl⟩ := he'
    obtain ⟨ad, e1, q0, q1, q2, q3⟩ := at_T47 hC k (by omega) (by omega)
    subst e1
    simp only [Int.toNat_natCast] at q0 q1 q2 q3
    have hxl : l[k]? = some (rd_T47 l k) := by
     unfold rd_T47
     rw [Int.toNat_natCast, List.getD_eq_getElem?_getD, List.getElem?_eq_getElem hlt]
     rfl
    have hxok := HOK.out _ (List.mem_of_getElem? hxl)
    have hdrop : l.drop k = rd_T47 l k :: l.drop (k + 1) := by
     rw [List.drop_eq_getElem_cons hlt]
     rw [List.getElem?_eq_getElem hlt] at hxl
     rw [Option.some.inj hxl]
    have hst := HRU.out
    rw [hdrop] at hst
    have hst2 : runP bld0 l = if (stepP s (rd_T47 l k)).2.2 = 0 then runP (stepP s (rd_T47 l k)).1 (l.drop (k + 1)) else stepP s (rd_T47 l k) := hst
    clear hst hdrop hxl hRw hC
    generalize rd_T47 l k = x at *
    have hstep := fun W (hW : BAt W w1.heap.size g m vr vt s) (hz : w1.heap.size ≤ W.heap.size) => step_calls w1.heap.size g m vr vt s x W hxok hz (by have := HBK.out.row; omega) (by have := HBK.out.t; omega) HBK.out.kinds HBK.out.pos HBK.out.chain hW
    have hok2 := stepP_ok HBK.out hxok
    have hf := hxok.1
    obtain ⟨f0, f1, f2, f3⟩ := x
    simp only at hstep q0 q1 q2 q3 hf
    obtain ⟨⟨s', ra, re⟩, hR⟩ : ∃ r, stepP s ⟨f0, f1, f2, f3⟩ = r := ⟨_, rfl⟩
    simp only [hR] at hstep hst2 hok2
    have HST := Lib.hid hstep
    have HS2 := Lib.hid hst2
    have HOK2 := Lib.hid hok2
    clear hstep hst2 hR hok2 hxok
    obtain ⟨W4, hW4⟩ : ∃ W4, (wr.alloc (.cells #[.int .i64 f0, .int .u8 f1, .string f2, .int .i64 f3] 47)).drew = W4 := ⟨_, rfl⟩
    have hb4 : Below wr.heap.size wr W4 := by rw [← hW4]; exact below_drew1 ((Below.refl _ _).alloc (Nat.le_refl _) _)
    have hX4 : W4.heap[wr.heap.size]? = some (.cells #[.int .i64 f0, .int .u8 f1, .string f2, .int .i64 f3] 47 (0, 0)) := by rw [← hW4]; exact blk_new wr _
    have hS4 : W4.heap[w2.heap.size]? = _ := blk_below (HKE.out _ _ HS3.out rfl) hb4
    have HX4 := Lib.hid hX4
    have HS4 := Lib.hid hS4
    have HB4 := Lib.hid hb4
    clear hX4 hS4 hb4
    rcases hf with rfl | rfl | rfl
    all_goals
     go_wp2
     refine Go.Mix.region_mix' (fun b W => cond b (StepTo w1.heap.size g m s' W4 W) (W = W4)) 5 11 [] (by kernel_rfl) (by kernel_rfl) (fun _ _ _ _ _ h => h) hW4 ?_
     clear hW4 q0 q1 q2 q3
     refine Go.Mix.seqE_nil ?_
     repeat
      apply Go.Mix.seqM_cons (by rfl) (by rfl)
      focus
       intro b W hS
       have hX : W.heap[wr.heap.size]? = _ := step_keep hS HX4.out rfl
       have hZ : W.heap[w2.heap.size]? = _ := step_keep hS HS4.out rfl
       have x0 := blk_cell hX 0
       have x1 := blk_cell hX 1
       have x2 := blk_cell hX 2
       have x3 := blk_cell hX 3
       have s1 := blk_cell hZ 1
       have s2 := blk_cell hZ 2
       have s3 := blk_cell hZ 3
       simp only [List.getElem?_toArray, List.getElem?_cons_succ, List.getElem?_cons_zero] at x0 x1 x2 x3 s1 s2 s3
       have HS := Lib.hid hS
       clear hS hX hZ
       go_wp2
       exact Go.Det.AtEnd.mk HS.out
     apply Go.Mix.seqM_main (by rfl)
     focus
      intro W hS
      obtain rfl : W = W4 := hS
      go_wp2_with fail
      refine (HST.out W (HBA.out.below HB4.out) (Nat.le_trans (Nat.le_trans HZ3.out HLO.out.size) HB4.out.size)).mono ?_
      rintro e W5 ⟨rfl, hst⟩
      have HSTT := Lib.hid hst
      clear hst
      go_wp2
      exact Go.Det.AtEnd.mk HSTT.out
     repeat
      apply Go.Mix.seqM_cons (by rfl) (by rfl)
      focus
       intro b W hS
       have HS := Lib.hid hS
       clear hS
       go_wp2
       exact Go.Det.AtEnd.mk HS.out
     refine Go.Mix.seqM_nil ?_
     intro W5 hW5
     obtain ⟨vr5, vt5, hb5, hl5, hk5⟩ := (show StepTo w1.heap.size g m s' W4 W5 from hW5)
     clear hW5
     simp only [List.drop_succ_cons, List.drop_zero, Exit.then]
     have HB5 := Lib.hid hb5
     have HL5 := Lib.hid ((HLO.out.trans (below_low HB4.out (Nat.le_trans HZ3.out HLO.out.size))).trans hl5)
     have HK5 := Lib.hid ((HKE.out.trans (KeepK.below HB4.out)).trans hk5)
     clear hb5 hl5 hk5
     by_cases hre : re = 0
     ·have hreb : (re != 0) = false := by rw [hre]; rfl
      have HRE := Lib.hid hre
      clear hre
      go_wp2
      go_roundw
      case rel => exact ⟨k + 1, s', vr5, vt5, by omega, by go_num, HB5.out, HOK2.out, HL5.out, HK5.out, by rw [HS2.out, if_pos HRE.out]⟩
      case measure => simp [intOf]; omega
     ·have hreb : (re != 0) = true := bne_iff_ne.2 hre
      have hPP : parseP a0 = ([], ra, re) := by
       rw [HP.out, HS2.out, if_neg hre]
       simp only
       rw [if_pos hre]
      have HPP := Lib.hid hPP
      have HRE := Lib.hid hre
      clear hre hPP
      go_wp2
      go_ret3
      refine ⟨_, by rw [HPP.out]; rfl, by rw [HPP.out]; exact Kd.R_nil _ _ _ _ _, ?_⟩
      exact HL3.out.trans (HL5.out.mono HZ1.out)
   ·obtain rfl : k = l.length := by omega
    have hlt1 : ¬ (l.length : Int) < (l.length : Int) := by omega
    have hend : runP bld0 l = (s, 0, 0) := by rw [HRU.out, List.drop_length]; rfl
    have hPP : parseP a0 = if s.row ≠ [] then ([], (a0.size : Int), 2) else (s.t, 0, 0) := by rw [HP.out, hend]; rfl
    obtain ⟨Ar, cr, rfl⟩ := own_slice HBA.out.row
    obtain ⟨At, ct, rfl⟩ := own_slice HBA.out.t
    have d0 := blk_cell HBA.out.blk 0
    have d1 := blk_cell HBA.out.blk 1
    simp only [List.getElem?_toArray, List.getElem?_cons_succ, List.getElem?_cons_zero] at d0 d1
    by_cases h0 : s.row = []
    ·have h00 : s.row.length = 0 := by rw [h0]; rfl
     have hPP2 : parseP a0 = (s.t, 0, 0) := by rw [hPP, if_neg (by simpa using h0)]
     have HPP := Lib.hid hPP2
     rw [h00] at d0
     clear hPP hPP2 h0 h00 hend
     go_wp2
     go_ret3
     refine ⟨_, by rw [HPP.out]; rfl, ?_, HL3.out.trans (HLO.out.mono HZ1.out)⟩
     rw [HPP.out]
     exact own_R56 HBA.out.t _ HZ1.out
    ·have hp : (0 : Int) < (s.row.length : Int) := by have := List.length_pos_iff.2 h0; omega
     have hPP2 : parseP a0 = ([], (a0.size : Int), 2) := by rw [hPP, if_pos h0]
     have HPP := Lib.hid hPP2
     clear hPP hPP2 h0 hend
     go_wp2
     go_ret3
     refine ⟨_, by rw [HPP.out]; rfl, by rw [HPP.out]; exact Kd.R_nil _ _ _ _ _, HL3.out.trans (HLO.out.mono HZ1.out)⟩
 ·have heb : (e != 0) = true := bne_iff_ne.2 he
  have HPP := Lib.hid (parse_bad HLP.out he)
  clear he
  go_enter Try.func53, Try.ntmps53
  go_wp2_with fail
  refine (HL.out _).mono ?_
  rintro e' w1 ⟨v, rfl, hR, hb1⟩
  have HB1 := Lib.hid hb1
  clear hR hb1
  go_wp2
  go_ret3
  exact ⟨_, by rw [HPP.out]; rfl, by rw [HPP.out]; exact Kd.R_nil _ _ _ _ _, HB1.out⟩
def tree_Parse.f (a0 : ByteArray) : Option (List S56 × Int × Int) := if a0.size ≤ 140737488351232 then some (parseP a0) else none
theorem tree_Parse.calls (a0 : ByteArray) (r1 : List S56) (r2 r3 : Int) (w : World) (h : tree_Parse.f a0 = some (r1, r2, r3)) :
  Calls Try.prog 53 #[.string a0] w fun e w' => ∃ v0_ : Value, e = .returned (.tuple #[v0_, .int .i64 r2, .int .i64 r3]) ∧ Kd.R k56 56 w' w.heap.size (fun _ => True) v0_ r1 ∧ Below w.heap.size w w' := by
 unfold tree_Parse.f at h
 by_cases hs : a0.size ≤ 140737488351232
 ·rw [if_pos hs] at h
  have h1 : parseP a0 = (r1, r2, r3) := Option.some.inj h
  refine (parse_calls a0 w hs).mono ?_
  rintro e w' ⟨v, he, hR, hb⟩
  rw [h1] at he hR
  exact ⟨v, he, hR, hb⟩
 ·rw [if_neg hs] at h
  cases h
end Go.Proofs.Ythcmfjpheanphaa.Pr
namespace Go.Proofs.Ythcmfjpheanphaa.Pr
open Go.RowKit Go.Proofs.YthcmfjpheanphaaW.PrintWords
attribute [local go_sem] Oper.semAt_some
def oddR (r : Int) : Bool := decide (127 < r) || !plainP r
theorem decode_low (s : ByteArray) (i : Nat) (hi : i < s.size) (h : bt s (i : Int) < 128) : Utf8.decode s i = ((bt s (i : Int)).toNat, 1) := by
 have hb : bt s (i : Int) = ((s.get! i).toNat : Int) := by
  unfold bt
  rw [dif_pos (by simpa using hi)]
  congr 2
  simp only [Int.toNat_natCast]
  exact (getElem!_pos s.data i hi).symm
 rw [Lib.decode_at]
 unfold Lib.decodeN
 rw [if_pos (by omega), hb, Int.toNat_natCast]
theorem decode_high (s : ByteArray) (i : Nat) (hi : i < s.size) (h : ¬ bt s (i : Int) < 128) : 128 ≤ (Utf8.decode s i).1 := by
 have hb : bt s (i : Int) = ((s.get! i).toNat : Int) := by
  unfold bt
  rw [dif_pos (by simpa using hi)]
  congr 2
  simp only [Int.toNat_natCast]
  exact (getElem!_pos s.data i hi).symm
 have h255 : (s.get! i).toNat < 256 := UInt8.toNat_lt _
 rw [Lib.decode_at]
 unfold Lib.decodeN
 repeat' split
 all_goals (simp only; omega)
set_option maxRecDepth 100000 in
set_option maxHeartbeats 4000000 in
theorem odd_calls (r : Int) (h0 : 0 ≤ r) (w : World) : Calls Try.prog 142 #[.int .i32 r] w fun e w' => e = .returned (.bool (oddR r)) ∧ Below w.heap.size w w' := by
 by_cases h1 : 127 < r
 ·have ho : oddR r = true := by unfold oddR; rw [decide_eq_true h1]; rfl
  rw [ho]
  go_enter Try.func142, Try.ntmps142
  go_wp2
  go_ret
  exact ⟨rfl, Below.refl _ _⟩
 ·have h2 : r ≤ 127 := by omega
  have hi := (white_at r h0 (by omega)).2
  have hw := fun w => white_calls r h0 (by omega) w
  have ho : oddR r = !plainP r := by unfold oddR; rw [decide_eq_false h1]; rfl
  rw [ho]
  unfold plainP
  generalize (!(classP r == 0) && !(classP r == 6)) = b1 at *
  generalize whiteP r = b2 at *
  have HI := Lib.hid hi
  have HW := Lib.hid hw
  clear hi hw ho
  cases b1
  ·go_enter Try.func142, Try.ntmps142
   go_wp2_with (first | (go_at_call 33; refine (chars_Is.calls r _ _ HI.out).mono ?_; rintro e w1 ⟨rfl, hb⟩) | (go_at_call 35; refine (HW.out _).mono ?_; rintro e w2 ⟨rfl, hb2⟩))
   go_ret
   exact ⟨by simp, hb.trans (hb2.mono hb.size)⟩
  ·go_enter Try.func142, Try.ntmps142
   go_wp2_with (first | (go_at_call 33; refine (chars_Is.calls r _ _ HI.out).mono ?_; rintro e w1 ⟨rfl, hb⟩) | (go_at_call 35; refine (HW.out _).mono ?_; rintro e w2 ⟨rfl, hb2⟩))
   go_ret
   exact ⟨by simp, hb⟩
theorem plain_low_fin : ∀ n : Fin 256, plainP (n.val : Int) = true → (n.val : Int) < 128 := by decide +kernel
theorem plain_low (c : Int) (h0 : 0 ≤ c) (h1 : c ≤ 255) (h : plainP c = true) : c < 128 := by
 have := plain_low_fin ⟨c.toNat, by omega⟩
 simp only [Int.toNat_of_nonneg h0] at this
 exact this h
def firstOdd (s : ByteArray) : Int := if plainTo s s.size 0 < s.size then (plainTo s s.size 0 : Nat) else -1
theorem plainTo_on (s : ByteArray) (p : Nat) (h : p < s.size) : plainTo s (s.size - p) p = if plainP (bt s (p : Int)) = true then plainTo s (s.size - (p + 1)) (p + 1) else p := by
 rw [show s.size - p = (s.size - (p + 1)) + 1 from by omega]
 simp only [plainTo]
 by_cases hp : plainP (bt s (p : Int)) = true
 ·rw [if_pos ⟨h, hp⟩, if_pos hp]
 ·rw [if_neg (fun hh => hp hh.2), if_neg hp]
set_option maxRecDepth 100000 in
set_option maxHeartbeats 4000000 in
theorem indexOdd_calls (s : ByteArray) (w : World) (hs : s.size ≤ 140737488351232) :
  Calls Try.prog 170 #[.string s, .func (.func 142) #[] #[], .bool true] w fun e w' => e = .returned (.int .i64 (firstOdd s)) ∧ Below w.heap.size w w' := by
 obtain ⟨R0, hR0⟩ : ∃ R, plainTo s s.size 0 = R := ⟨_, rfl⟩
 have hF : firstOdd s = if R0 < s.size then (R0 : Int) else -1 := by unfold firstOdd; rw [hR0]
 rw [hF]
 have HR := Lib.hid hR0
 obtain ⟨F0, hF0⟩ : ∃ F, (if R0 < s.size then (R0 : Int) else -1) = F := ⟨_, rfl⟩
 rw [hF0]
 have HF := Lib.hid hF0
 clear hR0 hF hF0
 go_enter Try.func170, Try.ntmps170
 go_wp2
 go_loopg [] s.size (fun gf wx => ∃ pos : Nat, wx.heap[w.heap.size]? = some (.stringIter s pos) ∧ Below w.heap.size w wx ∧ plainTo s (s.size - pos) pos = R0 ∧ pos ≤ s.size ∧ s.size ≤ pos + gf)
 case atStart => exact ⟨0, World.iter_heap w s 0, (Below.refl _ w).alloc (Nat.le_refl _) _, HR.out, Nat.zero_le _, by omega⟩
 case round =>
  obtain ⟨pos, hit, hbw, hpl, hps0, hfu⟩ := hrel
  by_cases hps : pos < s.size
  ·obtain ⟨g', rfl⟩ : ∃ g', gk = g' + 1 := ⟨gk - 1, by omega⟩
   have hnx : ∀ ty, (Instr.next (.pointer (some ⟨w.heap.size, 0, none⟩)) true ty).run Try.prog wr = _ := fun ty => Lib.run_next_any_at wr w.heap.size s pos ty hit hps
   rw [plainTo_on s pos hps] at hpl
   have hbr := bt_range s pos
   by_cases hp : plainP (bt s (pos : Int)) = true
   ·have hlow : bt s (pos : Int) < 128 := plain_low _ hbr.1 hbr.2 hp
    rw [decode_low s pos hps hlow] at hnx
    rw [if_pos hp] at hpl
    simp only at hnx
    have hit2 := Lib.iterAt_heap wr w.heap.size s pos (pos + 1) hit
    have hbw2 := Lib.below_iterAt hbw (k := w.heap.size) (Nat.le_refl _) s (pos + 1)
    obtain ⟨W, hWd⟩ : ∃ W, wr.iterAt w.heap.size s (pos + 1) = W := ⟨_, rfl⟩
    rw [hWd] at hnx hit2 hbw2
    have hltW : w.heap.size < W.heap.size := (Array.getElem?_eq_some_iff.1 hit2).1
    have hoc := odd_calls (((bt s (pos : Int)).toNat : Nat) : Int) (by omega) W
    have ho : oddR (((bt s (pos : Int)).toNat : Nat) : Int) = false := by
     rw [show (((bt s (pos : Int)).toNat : Nat) : Int) = bt s pos from by omega]
     unfold oddR
     rw [hp, decide_eq_false (by omega)]
     rfl
    rw [ho] at hoc
    generalize (bt s (pos : Int)).toNat = c at *
    have HOC := Lib.hid hoc
    have HI2 := Lib.hid hit2
    have HPL := Lib.hid hpl
    clear hoc hit2 hit hpl ho hlow hp hbr hbw
    go_wp2_with (go_at_call 142; refine HOC.out.mono ?_; rintro e W' ⟨rfl, hbc⟩)
    go_roundg g'
    case measure => omega
    case rel => exact ⟨pos + 1, (hbc.block _ hltW).trans HI2.out, hbw2.trans (hbc.mono hbw2.size), HPL.out, by omega, by omega⟩
   ·rw [if_neg hp] at hpl
    obtain ⟨Rn, hRn⟩ : ∃ R, (Utf8.decode s pos).1 = R := ⟨_, rfl⟩
    obtain ⟨K, hK⟩ : ∃ K, (Utf8.decode s pos).2 = K := ⟨_, rfl⟩
    have hodd : oddR (Rn : Int) = true := by
     by_cases hlow : bt s (pos : Int) < 128
     ·rw [decode_low s pos hps hlow] at hRn
      simp only at hRn
      have hpf : plainP (bt s (pos : Int)) = false := by simpa using hp
      unfold oddR
      rw [show ((Rn : Nat) : Int) = bt s pos from by omega, hpf]
      simp
     ·have := decode_high s pos hps hlow
      unfold oddR
      rw [decide_eq_true (by omega)]
      rfl
    rw [hRn, hK] at hnx
    have hbw2 := Lib.below_iterAt hbw (k := w.heap.size) (Nat.le_refl _) s (pos + K)
    obtain ⟨W, hWd⟩ : ∃ W, wr.iterAt w.heap.size s (pos + K) = W := ⟨_, rfl⟩
    rw [hWd] at hnx hbw2
    have hoc := odd_calls (Rn : Int) (by omega) W
    rw [hodd] at hoc
    have hres : F0 = (pos : Int) := by rw [← HF.out, ← hpl, if_pos hps]
    have HRES := Lib.hid hres
    have HOC := Lib.hid hoc
    clear hoc hit hpl hp hbr hbw hodd hRn hK hres
    go_wp2_with (go_at_call 142; refine HOC.out.mono ?_; rintro e W' ⟨rfl, hbc⟩)
    go_ret
    exact ⟨by rw [HRES.out]; rfl, hbw2.trans (hbc.mono hbw2.size)⟩
  ·have hnx : ∀ ty, (Instr.next (.pointer (some ⟨w.heap.size, 0, none⟩)) true ty).run Try.prog wr = _ := fun ty => Lib.run_next_end_at wr w.heap.size s pos ty hit hps
   have hR : R0 = s.size := by
    obtain rfl : pos = s.size := by omega
    rw [Nat.sub_self] at hpl
    simpa [plainTo] using hpl.symm
   have hres : F0 = -1 := by rw [← HF.out, if_neg (by omega)]
   have HRES := Lib.hid hres
   clear hpl hit hR hres
   go_wp2
   go_ret
   exact ⟨by rw [HRES.out]; rfl, hbw⟩
theorem containsOdd_calls (s : ByteArray) (w : World) (hs : s.size ≤ 140737488351232) :
  Calls Try.prog 143 #[.string s, .func (.func 142) #[] #[]] w fun e w' => e = .returned (.bool (decide (0 ≤ firstOdd s))) ∧ Below w.heap.size w w' := by
 have h1 := fun W => indexOdd_calls s W hs
 generalize firstOdd s = F at *
 have H1 := Lib.hid h1
 clear h1
 have key : ∀ W, Calls Try.prog 164 #[.string s, .func (.func 142) #[] #[]] W fun e w' => e = .returned (.int .i64 F) ∧ Below W.heap.size W w' := fun W => by
  go_enter Try.func164, Try.ntmps164
  go_wp2_with (go_at_call 170; refine (H1.out _).mono ?_; rintro e w' ⟨rfl, hb⟩)
  go_ret
  exact ⟨rfl, hb⟩
 have HK := Lib.hid key
 clear key
 go_enter Try.func143, Try.ntmps143
 go_wp2_with (go_at_call 164; refine (HK.out _).mono ?_; rintro e w' ⟨rfl, hb⟩)
 go_ret
 exact ⟨rfl, hb⟩
def plainB (x : S56) : Bool := if x.f0 = 46 then decide (0 < x.f1.size) && (x.f3 == 1 && !decide (0 ≤ firstOdd x.f1)) else decide (x.f1.size = 0) && decide (0 < (nameP x.f0).size)
set_option maxRecDepth 100000 in
set_option maxHeartbeats 4000000 in
theorem plainN_calls (x : S56) (w : World) (hs : x.f1.size ≤ 140737488351232) :
  Calls Try.prog 101 #[.agg #[.int .u8 x.f0, .string x.f1, .int .i64 x.f2, .int .i64 x.f3]] w fun e w' => e = .returned (.bool (plainB x)) ∧ Below w.heap.size w w' := by
 obtain ⟨f0, f1, f2, f3⟩ := x
 simp only at hs
 have hb0 : Below w.heap.size w (w.alloc (.cells #[.int .u8 f0, .string f1, .int .i64 f2, .int .i64 f3] 56)) := (Below.refl _ _).alloc (Nat.le_refl _) _
 have HB := Lib.hid hb0
 obtain ⟨B, hB⟩ : ∃ B, plainB ⟨f0, f1, f2, f3⟩ = B := ⟨_, rfl⟩
 rw [hB]
 unfold plainB at hB
 simp only at hB
 have HBB := Lib.hid hB
 have HC := Lib.hid (fun W => containsOdd_calls f1 W hs)
 have HN := Lib.hid (fun W => name_calls f0 W)
 clear hb0 hB
 by_cases h46 : f0 = 46
 ·rw [if_pos h46] at HBB
  subst h46
  by_cases hz : f1.size = 0
  ·have e1 : f1.toList = [] := by have := empty_size f1; rw [decide_eq_true hz] at this; simpa using this
   have e2 : f1.toList.isEmpty = true := by rw [e1]; rfl
   have HB2 := Lib.hid (show B = false from by rw [← HBB.out, decide_eq_false (by omega)]; rfl)
   clear hz
   go_enter Try.func101, Try.ntmps101
   go_wp2
   go_ret
   exact ⟨by rw [HB2.out]; rfl, HB.out⟩
  ·have e2 : f1.toList.isEmpty = false := by rw [empty_size, decide_eq_false hz]
   have e1 : f1.toList ≠ [] := fun e => by rw [e] at e2; cases e2
   by_cases h3 : f3 = 1
   ·subst h3
    have HB2 := Lib.hid (show B = !decide (0 ≤ firstOdd f1) from by rw [← HBB.out, decide_eq_true (by omega)]; simp)
    generalize decide (0 ≤ firstOdd f1) = c at *
    clear hz
    go_enter Try.func101, Try.ntmps101
    go_wp2_with (go_at_call 143; refine (HC.out _).mono ?_; rintro e w' ⟨rfl, hb⟩)
    go_ret
    exact ⟨by rw [HB2.out]; rfl, HB.out.trans (hb.mono HB.out.size)⟩
   ·have h3b : (f3 == 1) = false := beq_eq_false_iff_ne.2 h3
    have HB2 := Lib.hid (show B = false from by rw [← HBB.out, decide_eq_true (by omega), h3b]; rfl)
    clear hz h3
    go_enter Try.func101, Try.ntmps101
    go_wp2
    go_ret
    exact ⟨by rw [HB2.out]; rfl, HB.out⟩
 ·rw [if_neg h46] at HBB
  have h46b : (f0 == 46) = false := beq_eq_false_iff_ne.2 h46
  have h46c : (f0 != 46) = true := bne_iff_ne.2 h46
  clear h46
  by_cases hz : f1.size = 0
  ·have e1 : f1.toList = [] := by have := empty_size f1; rw [decide_eq_true hz] at this; simpa using this
   have e2 : f1.toList.isEmpty = true := by rw [e1]; rfl
   obtain ⟨nm, hnm⟩ : ∃ nm, nameP f0 = nm := ⟨_, rfl⟩
   rw [hnm] at HBB
   simp only [hnm] at HN
   clear hnm
   by_cases hnz : nm.size = 0
   ·have n2 : nm.toList.isEmpty = true := by rw [empty_size, decide_eq_true hnz]
    have n1 : nm.toList = [] := by simpa using n2
    have HB2 := Lib.hid (show B = false from by rw [← HBB.out, decide_eq_false (p := 0 < nm.size) (by omega)]; simp)
    clear hz hnz
    go_enter Try.func101, Try.ntmps101
    go_wp2_with (go_at_call 48; refine (HN.out _).mono ?_; rintro e w' ⟨rfl, hb⟩)
    go_ret
    exact ⟨by rw [HB2.out]; rfl, HB.out.trans (hb.mono HB.out.size)⟩
   ·have n2 : nm.toList.isEmpty = false := by rw [empty_size, decide_eq_false hnz]
    have n1 : nm.toList ≠ [] := fun e => by rw [e] at n2; cases n2
    have HB2 := Lib.hid (show B = true from by rw [← HBB.out, decide_eq_true hz, decide_eq_true (p := 0 < nm.size) (by omega)]; rfl)
    clear hz hnz
    go_enter Try.func101, Try.ntmps101
    go_wp2_with (go_at_call 48; refine (HN.out _).mono ?_; rintro e w' ⟨rfl, hb⟩)
    go_ret
    exact ⟨by rw [HB2.out]; rfl, HB.out.trans (hb.mono HB.out.size)⟩
  ·have e2 : f1.toList.isEmpty = false := by rw [empty_size, decide_eq_false hz]
   have e1 : f1.toList ≠ [] := fun e => by rw [e] at e2; cases e2
   have HB2 := Lib.hid (show B = false from by rw [← HBB.out, decide_eq_false hz]; rfl)
   clear hz
   go_enter Try.func101, Try.ntmps101
   go_wp2
   go_ret
   exact ⟨by rw [HB2.out]; rfl, HB.out⟩
theorem check1_calls (x : S56) (w : World) (hs : x.f1.size ≤ 140737488351232) :
  Calls Try.prog 100 #[.agg #[.int .u8 x.f0, .string x.f1, .int .i64 x.f2, .int .i64 x.f3]] w fun e w' => e = .returned (.bool (!plainB x)) ∧ Below w.heap.size w w' := by
 have hp := fun W => plainN_calls x W hs
 obtain ⟨f0, f1, f2, f3⟩ := x
 generalize plainB ⟨f0, f1, f2, f3⟩ = b at *
 have HP := Lib.hid hp
 have HB := Lib.hid (show Below w.heap.size w (w.alloc (.cells #[.int .u8 f0, .string f1, .int .i64 f2, .int .i64 f3] 56)) from (Below.refl _ _).alloc (Nat.le_refl _) _)
 clear hp
 go_enter Try.func100, Try.ntmps100
 go_wp2_with (go_at_call 101; refine (HP.out _).mono ?_; rintro e w' ⟨rfl, hb⟩)
 go_ret
 exact ⟨rfl, HB.out.trans (hb.mono HB.out.size)⟩
def oddAt : List S56 → Int → Int
 | [], _ => -1
 | x :: xs, i => if plainB x = true then oddAt xs (i + 1) else i
theorem oddAt_any : ∀ (xs : List S56) (i : Int), 0 ≤ i → decide (0 ≤ oddAt xs i) = xs.any fun x => !plainB x
 | [], i, h => by simp [oddAt]
 | x :: xs, i, h => by
  rw [List.any_cons]
  by_cases hp : plainB x = true
  ·rw [show oddAt (x :: xs) i = oddAt xs (i + 1) from if_pos hp, oddAt_any xs (i + 1) (by omega), hp]; rfl
  ·have hq : plainB x = false := by simpa using hp
   rw [show oddAt (x :: xs) i = i from if_neg hp, decide_eq_true h, hq]; rfl
theorem rd56_dropH (xs : List S56) (k : Nat) (h : k < xs.length) : xs.drop k = rd_T56 xs k :: xs.drop (k + 1) := by
 rw [List.drop_eq_getElem_cons h]
 congr 1
 unfold rd_T56
 rw [Int.toNat_natCast, List.getD_eq_getElem?_getD, List.getElem?_eq_getElem h]
 rfl
theorem rd56_mem (xs : List S56) (k : Nat) (h : k < xs.length) : rd_T56 xs k ∈ xs := by
 unfold rd_T56
 rw [Int.toNat_natCast, List.getD_eq_getElem?_getD, List.getElem?_eq_getElem h]
 exact List.getElem_mem h
set_option maxRecDepth 100000 in
set_option maxHeartbeats 4000000 in
theorem indexN_calls (A : Option Addr) (c : Nat) (xs : List S56) (w : World) (hx : xs.length ≤ 140737488351232) (hz : ∀ x ∈ xs, x.f1.size ≤ 140737488351232) (hA : Kd.C k56 w A xs.length xs) :
  Calls Try.prog 141 #[.slice A xs.length c, .func (.func 100) #[] #[]] w fun e w' => e = .returned (.int .i64 (oddAt xs 0)) ∧ Below w.heap.size w w' := by
 have HA := Lib.hid hA
 have HZ := Lib.hid hz
 obtain ⟨F, hF⟩ : ∃ F, oddAt xs 0 = F := ⟨_, rfl⟩
 rw [hF]
 have HF := Lib.hid hF
 obtain ⟨n, hn⟩ : ∃ n, xs.length = n := ⟨_, rfl⟩
 rw [hn] at hx ⊢
 have HN := Lib.hid hn
 clear hA hz hF hn
 go_enter Try.func141, Try.ntmps141
 go_wp2
 go_loopw [8] (fun v wr => ∃ k : Nat, k ≤ n ∧ v = .int .i64 k ∧ Below w.heap.size w wr ∧ oddAt (xs.drop k) k = F) (fun v _ => n - (intOf v).toNat)
 case atStart => exact ⟨0, Nat.zero_le _, rfl, Below.refl _ _, HF.out⟩
 case round =>
  obtain ⟨k, hk, rfl, hB, hs⟩ := hrel
  by_cases hlt : k < n
  ·have hlt1 : (k : Int) < (n : Int) := by omega
   rw [rd56_dropH xs k (by have := HN.out; omega)] at hs
   obtain ⟨ad, e1, q0, q1, q2, q3⟩ := at_T56 (Kd.C_below HA.out hB) k (by omega) (by have := HN.out; omega)
   subst e1
   simp only [Int.toNat_natCast] at q0 q1 q2 q3
   have hc := fun W => check1_calls (rd_T56 xs k) W (HZ.out _ (rd56_mem xs k (by have := HN.out; omega)))
   generalize rd_T56 xs k = x at *
   obtain ⟨f0, f1, f2, f3⟩ := x
   simp only at q0 q1 q2 q3
   have hs' : (if plainB ⟨f0, f1, f2, f3⟩ = true then oddAt (xs.drop (k + 1)) ((k : Int) + 1) else (k : Int)) = F := hs
   obtain ⟨b, hb⟩ : ∃ b, plainB ⟨f0, f1, f2, f3⟩ = b := ⟨_, rfl⟩
   rw [hb] at hs'
   simp only [hb] at hc
   have HS := Lib.hid hs'
   have HC := Lib.hid hc
   clear hs hs' hc hb
   cases b
   ·go_wp2_with (go_at_call 100; refine (HC.out _).mono ?_; rintro e w2 ⟨rfl, hb2⟩)
    go_ret
    exact ⟨by rw [← HS.out]; rfl, hB.trans (hb2.mono hB.size)⟩
   ·go_wp2_with (go_at_call 100; refine (HC.out _).mono ?_; rintro e w2 ⟨rfl, hb2⟩)
    go_roundw
    case rel => exact ⟨k + 1, by omega, by go_num, hB.trans (hb2.mono hB.size), by rw [← HS.out]; simp only [if_true]; congr 1⟩
    case measure => simp [intOf]; omega
  ·obtain rfl : k = n := by omega
   have hlt1 : ¬ (k : Int) < (k : Int) := by omega
   have hR : F = -1 := by
    rw [← hs, List.drop_of_length_le (by have := HN.out; omega)]
    rfl
   subst hR
   clear hs
   go_wp2
   go_ret
   exact ⟨rfl, hB⟩
theorem containsN_calls (A : Option Addr) (c : Nat) (xs : List S56) (w : World) (hx : xs.length ≤ 140737488351232) (hz : ∀ x ∈ xs, x.f1.size ≤ 140737488351232) (hA : Kd.C k56 w A xs.length xs) :
  Calls Try.prog 99 #[.slice A xs.length c, .func (.func 100) #[] #[]] w fun e w' => e = .returned (.bool (xs.any fun x => !plainB x)) ∧ Below w.heap.size w w' := by
 have h1 := indexN_calls A c xs w hx hz hA
 rw [← oddAt_any xs 0 (Int.le_refl _)]
 generalize oddAt xs 0 = F at *
 have H1 := Lib.hid h1
 clear h1 hA hz
 go_enter Try.func99, Try.ntmps99
 go_wp2_with (go_at_call 141; refine H1.out.mono ?_; rintro e w' ⟨rfl, hb⟩)
 go_ret
 exact ⟨rfl, hb⟩
def worseL (a b : Int) : List Int → Int
 | [] => 0
 | e :: l => if (a == e || b == e) = true then e else worseL a b l
def worseP (a b : Int) : Int := worseL a b [2, 5, 4]
set_option maxRecDepth 100000 in
set_option maxHeartbeats 4000000 in
theorem worse_calls (a b : Int) (w : World) : Calls Try.prog 105 #[.int .i64 a, .int .i64 b] w fun e w' => e = .returned (.int .i64 (worseP a b)) ∧ w' = w := by
 obtain ⟨F, hF⟩ : ∃ F, worseP a b = F := ⟨_, rfl⟩
 rw [hF]
 have HF := Lib.hid (show worseL a b ([2, 5, 4].drop 0) = F from hF)
 have i0 : ∀ W : World, (Instr.index 170 (.agg #[.int .i64 2, .int .i64 5, .int .i64 4]) (.int .i64 0)).run Try.prog W = .ok (.int .i64 2) W := fun W => by rfl
 have i1 : ∀ W : World, (Instr.index 170 (.agg #[.int .i64 2, .int .i64 5, .int .i64 4]) (.int .i64 1)).run Try.prog W = .ok (.int .i64 5) W := fun W => by rfl
 have i2 : ∀ W : World, (Instr.index 170 (.agg #[.int .i64 2, .int .i64 5, .int .i64 4]) (.int .i64 2)).run Try.prog W = .ok (.int .i64 4) W := fun W => by rfl
 clear hF
 go_enter Try.func105, Try.ntmps105
 go_wp2
 go_loop [8] (fun v => ∃ k : Nat, k ≤ 3 ∧ v = .int .i64 k ∧ worseL a b ([2, 5, 4].drop k) = F) (fun v => 3 - (intOf v).toNat)
 case atStart => exact ⟨0, by omega, rfl, HF.out⟩
 case round =>
  obtain ⟨k, hk, rfl, hw⟩ := hrel
  have hcase : k = 0 ∨ k = 1 ∨ k = 2 ∨ k = 3 := by omega
  rcases hcase with rfl | rfl | rfl | rfl
  ·have HW := Lib.hid hw
   clear hw
   cases ha : (a == 2)
   ·cases hb : (b == 2)
    ·go_wp2
     go_round
     case rel => exact ⟨1, by omega, rfl, by rw [← HW.out]; simp [worseL, ha, hb]⟩
     case measure => simp [intOf]
    ·go_wp2
     go_ret
     exact ⟨by rw [← HW.out]; simp [worseL, hb], rfl⟩
   ·go_wp2
    go_ret
    exact ⟨by rw [← HW.out]; simp [worseL, ha], rfl⟩
  ·have HW := Lib.hid hw
   clear hw
   cases ha : (a == 5)
   ·cases hb : (b == 5)
    ·go_wp2
     go_round
     case rel => exact ⟨2, by omega, rfl, by rw [← HW.out]; simp [worseL, ha, hb]⟩
     case measure => simp [intOf]
    ·go_wp2
     go_ret
     exact ⟨by rw [← HW.out]; simp [worseL, hb], rfl⟩
   ·go_wp2
    go_ret
    exact ⟨by rw [← HW.out]; simp [worseL, ha], rfl⟩
  ·have HW := Lib.hid hw
   clear hw
   cases ha : (a == 4)
   ·cases hb : (b == 4)
    ·go_wp2
     go_round
     case rel => exact ⟨3, by omega, rfl, by rw [← HW.out]; simp [worseL, ha, hb]⟩
     case measure => simp [intOf]
    ·go_wp2
     go_ret
     exact ⟨by rw [← HW.out]; simp [worseL, hb], rfl⟩
   ·go_wp2
    go_ret
    exact ⟨by rw [← HW.out]; simp [worseL, ha], rfl⟩
  ·have hR : F = 0 := by rw [← hw]; rfl
   subst hR
   clear hw
   go_wp2
   go_ret
   exact ⟨rfl, rfl⟩
end Go.Proofs.Ythcmfjpheanphaa.Pr
