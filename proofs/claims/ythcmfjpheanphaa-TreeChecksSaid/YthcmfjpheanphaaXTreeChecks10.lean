/- Texts of this seat, one behind the other. -/
import Derived.Laws.BytesArg
import Derived.Maps.AppendAt
import Derived.Deep.QuietTactic
import Derived.BigQuiet
import Derived.Test.YthcmfjpheanphaaXTreeChecks1
import Derived.Test.YthcmfjpheanphaaXTreeChecks2
import Derived.Test.YthcmfjpheanphaaXTreeChecks3
import Derived.Test.YthcmfjpheanphaaXTreeChecks4
import Derived.Test.YthcmfjpheanphaaXTreeChecks5
import Derived.Test.YthcmfjpheanphaaXTreeChecks6
import Derived.Test.YthcmfjpheanphaaXTreeChecks7
import Derived.Test.YthcmfjpheanphaaXTreeChecks8
import Derived.Test.YthcmfjpheanphaaXTreeChecks9
set_option linter.unusedVariables false
set_option linter.unusedSimpArgs false
namespace Go.Proofs.Ythcmfjpheanphaa.Pr
open Go.RowKit Go.Proofs.Ythcmfjpheanphaa.Pure Go.Proofs.YthcmfjpheanphaaW.PrintWords
def topB : ByteArray := ⟨#[49, 50, 51, 112, 108, 116, 107]⟩
def esnB : ByteArray := ⟨#[101, 115, 110]⟩
def opens1 (r : List S159) (c : Int) : Bool :=
 if c = 110 then (if manyP 99 r = 0 then (if 0 < lastP flowsB r then ((rd_T159 r (lastP flowsB r)).f3 == 0) else false) else false) else true
def opens0 (r : List S159) (c : Int) : Bool :=
 if (topR r).f0 = 114 then (if c = 99 then decide ((topR r).f1.size < 8) else false)
 else if textsR r = true then (if inB c esnB = true then (if 0 < manyP c r then false else opens1 r c) else false) else false
def opensR (r : List S159) (c : Int) : Bool :=
 if r.length = 1 then inB c topB
 else if ((topR r).f0 = 105 ∧ c = 108) ∨ ((topR r).f0 = 108 ∧ c = 105) ∨ ((topR r).f0 = 116 ∧ c = 114) then true else opens0 r c
theorem opens1_f (r : List S159) (hr : r.length ≤ 800000) (h0 : 0 < r.length) (c : Int) (b : Bool) (k : Nat) (hk : 2000000 ≤ k) : stylusref04_opens.j1 k r c b = some (if b = true then false else opens1 r c) := by
 obtain ⟨k, rfl⟩ : ∃ q, k = q + 1 := ⟨k - 1, by omega⟩
 rw [stylusref04_opens.j1]
 cases b
 ·simp only [Bool.false_eq_true, if_false]
  unfold opens1
  by_cases h1 : c = 110
  ·have hl : stylusref04_last.f k r ⟨#[49, 50, 51, 112, 105]⟩ = some (lastP flowsB r) := last_f flowsB (by decide) r (by omega) h0 k (by omega)
   have hlt := lastR_range' flowsB r
   rw [if_pos h1, if_pos h1, hl, Option.bind_some, many_f _ r (by omega) h0 k (by omega), Option.bind_some]
   by_cases h2 : manyP 99 r = 0
   ·rw [if_pos (by omega), if_pos h2]
    show (if lastP flowsB r > 0 then _ else _) = _
    by_cases h3 : 0 < lastP flowsB r
    ·rw [if_pos h3, if_pos h3, if_pos (by omega), if_pos (by omega)]
    ·rw [if_neg h3, if_neg h3]
   ·rw [if_neg (by omega), if_neg h2]
  ·rw [if_neg h1, if_neg h1]
 ·rfl
theorem opens0_f (r : List S159) (hr : r.length ≤ 800000) (h0 : 0 < r.length) (ht : (topR r).f1.size ≤ 800000) (c : Int) (b : Bool) (k : Nat) (hk : 2500000 ≤ k) :
  stylusref04_opens.j0 k r c b (topR r).f0 (topR r).f1 (topR r).f2 (topR r).f3 (topR r).f4 (topR r).f5 = some (if b = true then true else opens0 r c) := by
 obtain ⟨k, rfl⟩ : ∃ q, k = q + 1 := ⟨k - 1, by omega⟩
 rw [stylusref04_opens.j0]
 cases b
 ·simp only [Bool.false_eq_true, if_false]
  unfold opens0
  by_cases h1 : (topR r).f0 = 114
  ·rw [if_pos h1, if_pos h1]
   by_cases h2 : c = 99
   ·rw [if_pos h2, if_pos h2]
    congr 1
    rw [Bool.eq_iff_iff]
    simp only [decide_eq_true_eq]
    omega
   ·rw [if_neg h2, if_neg h2]
  ·rw [if_neg h1, if_neg h1, texts_f r (by omega) h0 (by omega) k (by omega), Option.bind_some]
   by_cases h2 : textsR r = true
   ·have hin : stylusref04_in.f k c ⟨#[101, 115, 110]⟩ = some (inB c esnB) := in_f _ esnB (by decide) k (by show 3 + 1 ≤ k; omega)
    rw [if_pos h2, if_pos h2, hin, Option.bind_some]
    by_cases h3 : inB c esnB = true
    ·rw [if_pos h3, if_pos h3, many_f _ r (by omega) h0 k (by omega), Option.bind_some, opens1_f r hr h0 c _ k (by omega)]
     by_cases h4 : 0 < manyP c r
     ·rw [if_pos (decide_eq_true (by omega)), if_pos h4]
     ·rw [if_neg (by simp; omega), if_neg h4]
    ·rw [if_neg h3, if_neg h3, opens1_f r hr h0 c _ k (by omega), if_pos rfl]
   ·rw [if_neg h2, if_neg h2, opens1_f r hr h0 c _ k (by omega), if_pos rfl]
 ·rfl
theorem opens_f (r : List S159) (hr : r.length ≤ 800000) (h0 : 0 < r.length) (ht : (topR r).f1.size ≤ 800000) (c : Int) (k : Nat) (hk : 2500000 ≤ k) : stylusref04_opens.f k r c = some (opensR r c) := by
 unfold stylusref04_opens.f opensR
 obtain ⟨n, hn⟩ : ∃ n, r.length = n + 1 := ⟨r.length - 1, by omega⟩
 have et : topR r = rd_T159 r (n : Int) := by unfold topR; rw [hn, Nat.add_sub_cancel]
 have e1 : wrap64 ((r.length : Int) - 1) = (n : Int) := by rw [hn]; exact wrap_p n (by omega)
 rw [e1, if_pos (by omega), if_pos (by omega), ← et]
 have hj := fun b => opens0_f r hr h0 ht c b k hk
 by_cases h1 : r.length = 1
 ·have hin : stylusref04_in.f k c ⟨#[49, 50, 51, 112, 108, 116, 107]⟩ = some (inB c topB) := in_f _ topB (by decide) k (by show 7 + 1 ≤ k; omega)
  rw [if_pos (by omega), if_pos h1, hin, Option.bind_some]
 ·rw [if_neg (by omega), if_neg h1]
  simp only [hj, if_true, Bool.false_eq_true, if_false]
  by_cases a1 : (topR r).f0 = 105
  ·by_cases b1 : c = 108
   ·simp [a1, b1]
   ·simp [a1, b1]
  ·by_cases a2 : (topR r).f0 = 108
   ·by_cases b2 : c = 105
    ·simp [a2, b2]
    ·simp [a2, b2]
   ·by_cases a3 : (topR r).f0 = 116
    ·by_cases b3 : c = 114
     ·simp [a3, b3]
     ·simp [a3, b3]
    ·simp [a1, a2, a3]
end Go.Proofs.Ythcmfjpheanphaa.Pr
namespace Go.Proofs.Ythcmfjpheanphaa.Pr
open Go.RowKit Go.Maps Go.Proofs.YthcmfjpheanphaaW.PrintWords
def cells9 (x : S159) : List Value := [.int .u8 x.f0, .string x.f1, .int .i64 x.f2, .int .i64 x.f3, .int .i64 x.f4, .string x.f5]
def cells6 (x : S56) : List Value := [.int .u8 x.f0, .string x.f1, .int .i64 x.f2, .int .i64 x.f3]
def flatQ (xs : List S159) : List Value := xs.flatMap cells9
theorem flatQ_length (xs : List S159) : (flatQ xs).length = xs.length * 6 := by
 induction xs with
 | nil => rfl
 | cons x xs ih => simp [flatQ, cells9] at ih ⊢; omega
theorem flatQ_snoc (xs : List S159) (x : S159) : flatQ (xs ++ [x]) = flatQ xs ++ cells9 x := by simp [flatQ]
theorem flatQ_cons (x : S159) (xs : List S159) : flatQ (x :: xs) = cells9 x ++ flatQ xs := by simp [flatQ]
theorem flatQ_at (xs : List S159) : ∀ (j i : Nat), j < xs.length → i < 6 → (flatQ xs)[j * 6 + i]? = (cells9 (xs.getD j z159))[i]? := by
 induction xs with
 | nil => intro j i h; simp at h
 | cons x xs ih =>
  intro j i h hi
  rw [flatQ_cons]
  cases j with
  | zero => rw [List.getElem?_append_left (by simp [cells9]; omega)]; simp
  | succ j =>
   rw [List.getElem?_append_right (by simp [cells9]; omega)]
   have := ih j i (by simpa using h) hi
   rw [show (j + 1) * 6 + i - (cells9 x).length = j * 6 + i from by simp [cells9]; omega, this]
   simp
theorem flatQ_mod (f : S159 → S159) (i : Nat) (hi : i < 6) (u : Value) : ∀ (xs : List S159) (j : Nat), j < xs.length → cells9 (f (xs.getD j z159)) = (cells9 (xs.getD j z159)).set i u → (flatQ xs).set (j * 6 + i) u = flatQ (xs.modify j f)
 | [], j, h, _ => by simp at h
 | x :: xs, 0, h, hf => by
  rw [flatQ_cons, List.modify_zero_cons, flatQ_cons, List.set_append_left _ _ (by simp [cells9]; omega), Nat.zero_mul, Nat.zero_add]
  simp only [List.getD_cons_zero] at hf
  rw [hf]
 | x :: xs, j + 1, h, hf => by
  rw [flatQ_cons, List.modify_succ_cons, flatQ_cons, List.set_append_right _ _ (by simp [cells9]; omega)]
  rw [show (j + 1) * 6 + i - (cells9 x).length = j * 6 + i from by simp [cells9]; omega]
  rw [flatQ_mod f i hi u xs j (by simpa using h) (by simpa using hf)]
theorem flat6_snoc (xs : List S56) (x : S56) : flat56 (xs ++ [x]) = flat56 xs ++ cells6 x := by simp [flat56, cells6]
theorem flat6_cons (x : S56) (xs : List S56) : flat56 (x :: xs) = cells6 x ++ flat56 xs := by simp [flat56, cells6]
theorem flat6_at (xs : List S56) : ∀ (j i : Nat), j < xs.length → i < 4 → (flat56 xs)[j * 4 + i]? = (cells6 (xs.getD j z56))[i]? := by
 induction xs with
 | nil => intro j i h; simp at h
 | cons x xs ih =>
  intro j i h hi
  rw [flat6_cons]
  cases j with
  | zero => rw [List.getElem?_append_left (by simp [cells6]; omega)]; simp
  | succ j =>
   rw [List.getElem?_append_right (by simp [cells6]; omega)]
   have := ih j i (by simpa using h) hi
   rw [show (j + 1) * 4 + i - (cells6 x).length = j * 4 + i from by simp [cells6]; omega, this]
   simp
theorem flat6_mod (f : S56 → S56) (i : Nat) (hi : i < 4) (u : Value) : ∀ (xs : List S56) (j : Nat), j < xs.length → cells6 (f (xs.getD j z56)) = (cells6 (xs.getD j z56)).set i u → (flat56 xs).set (j * 4 + i) u = flat56 (xs.modify j f)
 | [], j, h, _ => by simp at h
 | x :: xs, 0, h, hf => by
  rw [flat6_cons, List.modify_zero_cons, flat6_cons, List.set_append_left _ _ (by simp [cells6]; omega), Nat.zero_mul, Nat.zero_add]
  simp only [List.getD_cons_zero] at hf
  rw [hf]
 | x :: xs, j + 1, h, hf => by
  rw [flat6_cons, List.modify_succ_cons, flat6_cons, List.set_append_right _ _ (by simp [cells6]; omega)]
  rw [show (j + 1) * 4 + i - (cells6 x).length = j * 4 + i from by simp [cells6]; omega]
  rw [flat6_mod f i hi u xs j (by simpa using h) (by simpa using hf)]
def Row9 (W : World) (B0 : Nat) (v : Value) (r : List S159) : Prop := W.ownsRow B0 159 6 v r.length (flatQ r)
def Row6 (W : World) (B0 : Nat) (v : Value) (t : List S56) : Prop := W.ownsRow B0 56 4 v t.length (flat56 t)
theorem own_form {W : World} {B0 n e z : Nat} {v : Value} {xs : List Value} (h : W.ownsRow B0 e z v n xs) (hn : 0 < n) : ∃ g c, v = .slice (some ⟨g, 0, none⟩) n c := by
 obtain ⟨A, c, rfl⟩ := own_slice h
 rcases h.2 with ⟨_, h0⟩ | ⟨g, cap, cur, e, _⟩
 ·omega
 ·simp only [Value.slice.injEq] at e
  obtain ⟨rfl, _, rfl⟩ := e
  exact ⟨g, _, rfl⟩
theorem row9_cell {W : World} {B0 g c n : Nat} {r : List S159} (h : Row9 W B0 (.slice (some ⟨g, 0, none⟩) n c) r) (j i : Nat) (hj : j < r.length) (hi : i < 6) : W.cell? ⟨g, j * 6 + i, none⟩ = (cells9 (r.getD j z159))[i]? := by
 have hn : n = r.length := by
  obtain ⟨A, c', e⟩ := own_slice h
  simp only [Value.slice.injEq] at e
  exact e.2.1
 subst hn
 rw [World.ownsRow.cellAt h (j * 6 + i) (by omega), flatQ_at r j i hj hi]
theorem row6_cell {W : World} {B0 g c n : Nat} {t : List S56} (h : Row6 W B0 (.slice (some ⟨g, 0, none⟩) n c) t) (j i : Nat) (hj : j < t.length) (hi : i < 4) : W.cell? ⟨g, j * 4 + i, none⟩ = (cells6 (t.getD j z56))[i]? := by
 have hn : n = t.length := by
  obtain ⟨A, c', e⟩ := own_slice h
  simp only [Value.slice.injEq] at e
  exact e.2.1
 subst hn
 rw [World.ownsRow.cellAt h (j * 4 + i) (by omega), flat6_at t j i hj hi]
structure RAt (W : World) (B0 : Nat) (vr vt : Value) (s : RSt) : Prop where
 row : Row9 W B0 vr s.r
 t : Row6 W B0 vt s.t
theorem RAt.below {W W' : World} {B0 : Nat} {vr vt : Value} {s : RSt} (h : RAt W B0 vr vt s) (hb : Below W.heap.size W W') : RAt W' B0 vr vt s := ⟨pw_own_below h.row hb, pw_own_below h.t hb⟩
theorem own_num {W : World} {B0 n m e z : Nat} {A : Option Addr} {c : Nat} {xs : List Value} (h : W.ownsRow B0 e z (.slice A n c) m xs) : n = m := by
 obtain ⟨A', c', e⟩ := own_slice h
 simp only [Value.slice.injEq] at e
 exact e.2.1
theorem RAt.setR {W : World} {B0 gr c n : Nat} {vt : Value} {s : RSt} (h : RAt W B0 (.slice (some ⟨gr, 0, none⟩) n c) vt s) (j i : Nat) (hj : j < s.r.length) (hi : i < 6) (f : S159 → S159) (u : Value) (hf : cells9 (f (s.r.getD j z159)) = (cells9 (s.r.getD j z159)).set i u) :
  RAt (W.setCell ⟨gr, j * 6 + i, none⟩ u) B0 (.slice (some ⟨gr, 0, none⟩) n c) vt ⟨s.t, s.r.modify j f⟩ ∧ Below B0 W (W.setCell ⟨gr, j * 6 + i, none⟩ u) ∧ W.frozen? ⟨gr, j * 6 + i, none⟩ = false := by
 obtain rfl := own_num h.row
 have hb0 := own_base h.row gr rfl
 refine ⟨⟨?_, ?_⟩, (Below.refl B0 W).setCell hb0 _, World.ownsRow.frozenAt h.row _⟩
 ·have := (World.ownsRow.stored h.row (j * 6 + i) u).1
  rw [flatQ_mod f i hi u s.r j hj hf] at this
  unfold Row9
  simp only [List.length_modify]
  exact this
 ·refine own_setCell h.t ?_ _
  rcases own_type_ne h.row h.t (by decide) with h0 | h0
  ·cases h0
  ·exact h0
theorem RAt.setT {W : World} {B0 gt c n : Nat} {vr : Value} {s : RSt} (h : RAt W B0 vr (.slice (some ⟨gt, 0, none⟩) n c) s) (j i : Nat) (hj : j < s.t.length) (hi : i < 4) (f : S56 → S56) (u : Value) (hf : cells6 (f (s.t.getD j z56)) = (cells6 (s.t.getD j z56)).set i u) :
  RAt (W.setCell ⟨gt, j * 4 + i, none⟩ u) B0 vr (.slice (some ⟨gt, 0, none⟩) n c) ⟨s.t.modify j f, s.r⟩ ∧ Below B0 W (W.setCell ⟨gt, j * 4 + i, none⟩ u) ∧ W.frozen? ⟨gt, j * 4 + i, none⟩ = false := by
 obtain rfl := own_num h.t
 have hb0 := own_base h.t gt rfl
 refine ⟨⟨?_, ?_⟩, (Below.refl B0 W).setCell hb0 _, World.ownsRow.frozenAt h.t _⟩
 ·refine own_setCell h.row ?_ _
  rcases own_type_ne h.t h.row (by decide) with h0 | h0
  ·cases h0
  ·exact h0
 ·have := (World.ownsRow.stored h.t (j * 4 + i) u).1
  rw [flat6_mod f i hi u s.t j hj hf] at this
  unfold Row6
  simp only [List.length_modify]
  exact this
theorem RAt.pushT {W W4 : World} {B0 : Nat} {o : Obj} {vr vt v' : Value} {s : RSt} {x : S56} (h : RAt W B0 vr vt s) (hg : (W.alloc o).grownBy W4 vt.ownBlock) (ho : W4.ownsRow B0 56 4 v' (s.t.length + 1) (flat56 s.t ++ cells6 x)) : RAt W4 B0 vr v' ⟨s.t ++ [x], s.r⟩ := by
 refine ⟨own_other (own_alloc h.row _) hg (own_type_ne h.row h.t (by decide)), ?_⟩
 unfold Row6
 simp only [List.length_append, List.length_cons, List.length_nil]
 rw [flat6_snoc]
 exact ho
theorem RAt.pushR {W W4 : World} {B0 : Nat} {o : Obj} {vr vt v' : Value} {s : RSt} {x : S159} (h : RAt W B0 vr vt s) (hg : (W.alloc o).grownBy W4 vr.ownBlock) (ho : W4.ownsRow B0 159 6 v' (s.r.length + 1) (flatQ s.r ++ cells9 x)) : RAt W4 B0 v' vt ⟨s.t, s.r ++ [x]⟩ := by
 refine ⟨?_, own_other (own_alloc h.t _) hg (own_type_ne h.t h.row (by decide))⟩
 unfold Row9
 simp only [List.length_append, List.length_cons, List.length_nil]
 rw [flatQ_snoc]
 exact ho
theorem own_R159 {w : World} {base : Nat} {v : Value} {xs : List S159} (h : Row9 w base v xs) (b' : Nat) (hb : b' ≤ base) : Kd.R k159 159 w b' (fun _ => True) v xs := by
 refine Kd.R_lower (base := base) ⟨fun _ _ => trivial, flatQ xs, h, flatQ_length xs, fun j p hp => ?_⟩ hb
 have : ((flatQ xs).drop (j * 6)).take 6 = cells9 p := by
  have go : ∀ (xs : List S159) (j : Nat) (p : S159), xs[j]? = some p → ((flatQ xs).drop (j * 6)).take 6 = cells9 p := by
   intro xs
   induction xs with
   | nil => intro j p h; simp at h
   | cons x xs ih =>
    intro j p h
    cases j with
    | zero => simp at h; subst h; simp [flatQ, cells9]
    | succ j =>
     have := ih j p (by simpa using h)
     rw [flatQ_cons, Nat.succ_mul, Nat.add_comm, ← List.drop_drop]
     have e : (cells9 x ++ flatQ xs).drop 6 = flatQ xs := by simp [cells9]
     rw [e]
     exact this
  exact go xs j p hp
 show k159.M _ _ _ _ (((flatQ xs).drop (j * 6)).take 6)
 rw [this]
 exact k159_mkM _ _ _ _
theorem RAt.reads {W : World} {B0 n c : Nat} {A : Option Addr} {vt : Value} {s : RSt} (h : RAt W B0 (.slice A n c) vt s) : n = s.r.length ∧ n ≤ c ∧ Kd.C k159 W A s.r.length s.r := by
 obtain ⟨A', c', e, h1, h2⟩ := Kd.R_reads (own_R159 h.row B0 (Nat.le_refl _))
 simp only [Value.slice.injEq] at e
 obtain ⟨rfl, rfl, rfl⟩ := e
 exact ⟨rfl, h1, h2⟩
end Go.Proofs.Ythcmfjpheanphaa.Pr
namespace Go.Mix
open Go Go.Det
variable {P : Program} {ops : Array Oper} {Q : Exit → Act → World → Prop}
theorem any_mixD {D : Nat → Bool} (ok : Ok ops) {S : Bool → World → Prop} {μ k : Nat} {es : List Nat} (hes : esOk ops es = true) (hμ : es.contains μ = false) (hkn : k ≤ ops.size) (ht : tailOk ops k es = true) (hD : ∀ i, i < ops.size → D i = true → waits ops ops.size i μ = true) {val : Nat → Value} {a0 : Act}
  (hsteps : ∀ i o, i < k → es.contains i = false → ops[i]? = some o → ∃ x, Fr ops val a0 (fun j => decide (j < i) || es.contains j) x ∧ (if i = μ then StepG P ops (S false) (S true) x o (val i) else ∀ b, (D i = true → b = true) → StepG P ops (S b) (S b) x o (val i)))
  (hend : ∀ x, Fr ops val a0 (fun j => decide (j < k) || es.contains j) x → ∀ w, S (decide (μ < k)) w → wpList P ops Q (rest ops es (ops.size - k) k) x w) : ∀ (fuel : Nat) (listed : Array Bool) (a : Act) (w : World), listed.size = ops.size →
  cnt (fun i => listed.getD i false) ops.size ≤ fuel → (∀ i o, ops[i]? = some o → listed.getD i false = true → ∀ e ∈ o.after, Region.binds .any e = true → listed.getD e.on false = true) →
  (∀ i, i < ops.size → listed.getD i false = true → i < k ∨ es.contains i = true) → (∀ i, i < ops.size → es.contains i = true → listed.getD i false = true) →
  Fr ops val a0 (fun i => listed.getD i false) a → S (listed.getD μ false) w → wpAny P .any ops Q fuel listed a w := by
 have fin : ∀ (fuel : Nat) (listed : Array Bool) (a : Act) (w : World), listed.size = ops.size →
  cnt (fun i => listed.getD i false) ops.size ≤ fuel →
  (∀ i, i < ops.size → listed.getD i false = true → i < k ∨ es.contains i = true) → (∀ i, i < ops.size → es.contains i = true → listed.getD i false = true) →
  Fr ops val a0 (fun i => listed.getD i false) a → S (listed.getD μ false) w → (∀ i, i < k → listed.getD i false = true) → wpAny P .any ops Q fuel listed a w := by
  intro fuel listed a w hsz hc hlk hel hf hS hdone
  have hL : ∀ i, i < ops.size → listed.getD i false = (decide (i < k) || es.contains i) := fun i hi => by
   by_cases hik : i < k
   ·rw [hdone i hik]; simp [hik]
   ·cases he : es.contains i with
    | true => rw [hel i hi he]; simp
    | false =>
     have : listed.getD i false ≠ true := fun h => by
      rcases hlk i hi h with h | h
      ·exact hik h
      ·rw [he] at h; cases h
     simp only [Bool.not_eq_true] at this
     rw [this]; simp [hik]
  have hb : listed.getD μ false = decide (μ < k) := by
   rcases Nat.lt_or_ge μ ops.size with h | h
   ·rw [hL μ h, hμ]; simp
   ·rw [Array.getD_eq_getD_getElem?, Array.getElem?_eq_none (by omega)]
    simp; omega
  rw [hb] at hS
  refine any_tail ok hes ht (ops.size - k) k fuel listed a w hsz hL (Nat.le_refl _) (by omega) ?_ (hend a (fr_congr hf (fun j hj => (hL j hj).symm) (fun _ _ => rfl)) w hS)
  have := rest_len (ops := ops) (es := es) (L := fun i => listed.getD i false) (ops.size - k) k fun i hi hin he => by
   show listed.getD i false = false
   rw [hL i (by omega), he]; simp; omega
  rw [show k + (ops.size - k) = ops.size by omega] at this
  omega
 intro fuel
 induction fuel with
 | zero =>
  intro listed a w hsz hc hcl hlk hel hf hS
  have hall := cnt_zero _ _ (Nat.le_zero.1 hc)
  exact fin 0 listed a w hsz hc hlk hel hf hS fun i hi => hall i (by omega)
 | succ fuel ih =>
  intro listed a w hsz hc hcl hlk hel hf hS
  by_cases hdone : ∀ i, i < k → listed.getD i false = true
  ·exact fin _ listed a w hsz hc hlk hel hf hS hdone
  refine ⟨fun hr => absurd (fun i hi => least_ready ok hsz hr i (by omega)) hdone, fun i hi => ?_⟩
  have hin : i < ops.size := ready_lt hi
  have hil : i < listed.size := by omega
  obtain ⟨o, ho⟩ : ∃ o, ops[i]? = some o := ⟨_, Array.getElem?_eq_getElem hin⟩
  obtain ⟨hlf, hdeps⟩ := (ready_iff hsz ho).1 hi
  have hie : es.contains i = false := by
   cases he : es.contains i with
   | false => rfl
   | true => rw [hel i hin he] at hlf; cases hlf
  have hik : i < k := by
   rcases Nat.lt_or_ge i k with h | h
   ·exact h
   ·exfalso
    refine hdone fun j hj => ?_
    cases hej : es.contains j with
    | true => exact hel j (by omega) hej
    | false =>
     have hw := tail_waits ht hin h hie (show j < i by omega) hej
     exact waits_listed hcl ops.size i j (fun o' ho' e he hb => by
      rw [ho] at ho'
      cases ho'
      exact hdeps e he hb) hw
  have hset : ∀ j, (listed.setIfInBounds i true).getD j false = (listed.getD j false || j == i) := fun j => set_getD hil j
  obtain ⟨x, hfx, hsx⟩ := hsteps i o hik hie ho
  have look : ∀ j oj t, ops[j]? = some oj → oj.dst = some t → t ∈ o.looksAt ops → (decide (j < i) || es.contains j) = listed.getD j false := fun j oj t hj hd ht => by
   rcases ok.reads i o j oj t ho hj hd ht with ⟨e, he, hb, rfl⟩ | ⟨hne, e, he, hb, hei⟩
   ·rw [hdeps e he hb]
    have := ok.back i o ho e he hb
    simp [this]
   ·have hlt : i < j := hei ▸ ok.back j oj hj e he hb
    have hlj : listed.getD j false = false := by
     cases hlj : listed.getD j false with
     | false => rfl
     | true =>
      have := hcl j oj hj hlj e he hb
      rw [hei, hlf] at this
      cases this
    rw [hlj]
    have : es.contains j = false := by
     cases hej : es.contains j with
     | false => rfl
     | true => rw [hel j (lt_of_some hj) hej] at hlj; cases hlj
    rw [this]
    simp; omega
  have hnext : ∀ w', S ((listed.setIfInBounds i true).getD μ false) w' → wpAny P .any ops Q fuel (listed.setIfInBounds i true) (a.put o.dst (val i)) w' := fun w' hS' => by
   refine ih _ _ _ (by simpa using hsz) ?_ ?_ ?_ ?_ ?_ hS'
   ·have := (cnt_set (fun j => listed.getD j false) (fun j => (listed.setIfInBounds i true).getD j false) i hlf hset ops.size).1 hin
    omega
   ·intro j oj hj hlj e he hb
    rw [hset] at hlj ⊢
    rcases Bool.or_eq_true .. ▸ hlj with h | h
    ·rw [hcl j oj hj h e he hb]; rfl
    ·have : j = i := by simpa using h
     subst this
     rw [ho] at hj
     cases hj
     rw [hdeps e he hb]; rfl
   ·intro j hj hlj
    rw [hset] at hlj
    rcases Bool.or_eq_true .. ▸ hlj with h | h
    ·exact hlk j hj h
    ·have : j = i := by simpa using h
     exact .inl (by omega)
   ·intro j hj he
    rw [hset, hel j hj he]; rfl
   ·exact fr_put ok ho hf fun j _ => hset j
  have go : ∀ S1 S2 : World → Prop, S1 w → (∀ w', S2 w' → S ((listed.setIfInBounds i true).getD μ false) w') → StepG P ops S1 S2 a o (val i) → wpOp P ops Q i (wpAny P .any ops Q fuel (listed.setIfInBounds i true)) a w := by
   intro S1 S2 h1 h2 hst
   unfold wpOp
   rw [ho]
   simp only
   rcases hst with ⟨hw, hrun⟩ | ⟨hw, hv, hs⟩
   ·rw [if_pos hw]
    refine .inl ?_
    have := hrun w h1
    unfold Oper.wp at this ⊢
    exact upon_imp (fun a' w' ⟨ha', hS'⟩ => ha' ▸ hnext w' (h2 _ hS')) this
   ·rw [if_neg (by rw [hw]; simp)]
    rw [← hv]
    exact hnext w (h2 _ (hs _ h1))
  by_cases hiμ : i = μ
  ·rw [if_pos hiμ] at hsx
   refine go (S false) (S true) ?_ (fun w' h => ?_) (stepG_same ok ho hfx hf look hsx)
   ·rw [← hiμ, hlf] at hS; exact hS
   ·rw [← hiμ, hset]; simpa using h
  ·rw [if_neg hiμ] at hsx
   refine go _ _ hS (fun w' h => ?_) (stepG_same ok ho hfx hf look (hsx _ fun hd => waits_listed hcl ops.size i μ (fun o' ho' e he hb => by
    rw [ho] at ho'
    cases ho'
    exact hdeps e he hb) (hD i hin hd)))
   rw [hset, show (μ == i) = false by simpa using Ne.symm hiμ, Bool.or_false]
   exact h
def SeqD (D : Nat → Bool) (P : Program) (ops : Array Oper) (S : Bool → World → Prop) (μ : Nat) (es : List Nat) (d : List Deferred) (R : Array Value → Prop) : Nat → List Oper → Array Value → Prop
 | _, [], t => R t
 | i, o :: l, t => if es.contains i then SeqD D P ops S μ es d R (i + 1) l t else
   ∃ t' : Array Value, (if i = μ then ∀ w, S false w → wpList P ops (AtEnd (S true) d t') [o] { tmps := t, defers := d } w
    else ∀ b w, (D i = true → b = true) → S b w → wpList P ops (AtEnd (S b) d t') [o] { tmps := t, defers := d } w) ∧ SeqD D P ops S μ es d R (i + 1) l t'
theorem seqD_nil {D : Nat → Bool} {S : Bool → World → Prop} {μ i : Nat} {es : List Nat} {d : List Deferred} {R : Array Value → Prop} {t : Array Value} (h : R t) : SeqD D P ops S μ es d R i [] t := h
theorem seqD_cons {D : Nat → Bool} {S : Bool → World → Prop} {μ i : Nat} {es : List Nat} {d : List Deferred} {R : Array Value → Prop} {o : Oper} {l : List Oper} {t t' : Array Value} (he : es.contains i = false) (hμ : (i == μ) = false)
  (h : ∀ b w, S b w → wpList P ops (AtEnd (S b) d t') [o] { tmps := t, defers := d } w) (hr : SeqD D P ops S μ es d R (i + 1) l t') : SeqD D P ops S μ es d R i (o :: l) t := by
 simp only [SeqD, he, Bool.false_eq_true, if_false]
 exact ⟨t', by rw [if_neg (by simpa using hμ)]; exact fun b w _ => h b w, hr⟩
theorem seqD_dep {D : Nat → Bool} {S : Bool → World → Prop} {μ i : Nat} {es : List Nat} {d : List Deferred} {R : Array Value → Prop} {o : Oper} {l : List Oper} {t t' : Array Value} (he : es.contains i = false) (hμ : (i == μ) = false)
  (hd : D i = true) (h : ∀ w, S true w → wpList P ops (AtEnd (S true) d t') [o] { tmps := t, defers := d } w) (hr : SeqD D P ops S μ es d R (i + 1) l t') : SeqD D P ops S μ es d R i (o :: l) t := by
 simp only [SeqD, he, Bool.false_eq_true, if_false]
 exact ⟨t', by rw [if_neg (by simpa using hμ)]; exact fun b w hb => by rw [hb hd]; exact h w, hr⟩
theorem seqD_main {D : Nat → Bool} {S : Bool → World → Prop} {μ : Nat} {es : List Nat} {d : List Deferred} {R : Array Value → Prop} {o : Oper} {l : List Oper} {t t' : Array Value} (he : es.contains μ = false)
  (h : ∀ w, S false w → wpList P ops (AtEnd (S true) d t') [o] { tmps := t, defers := d } w) (hr : SeqD D P ops S μ es d R (μ + 1) l t') : SeqD D P ops S μ es d R μ (o :: l) t := by
 simp only [SeqD, he, Bool.false_eq_true, if_false]
 exact ⟨t', by rw [if_pos trivial]; exact h, hr⟩
theorem seqD_vals {D : Nat → Bool} (ok : Ok ops) {S : Bool → World → Prop} {μ : Nat} {es : List Nat} {d : List Deferred} {R : Array Value → Prop} {a0 : Act} {w0 w1 : World} (h0 : S false w0) (h1S : S true w1) : ∀ (l : List Oper) (i : Nat) (val0 : Nat → Value) (t : Array Value),
  (∀ j o, l[j]? = some o → ops[i + j]? = some o) → Fr ops val0 a0 (fun j => decide (j < i) || es.contains j) { tmps := t, defers := d } → SeqD D P ops S μ es d R i l t →
  ∃ val : Nat → Value, (∀ j, (j < i ∨ es.contains j = true) → val j = val0 j) ∧ (∀ k o, i ≤ k → k < i + l.length → es.contains k = false → ops[k]? = some o → ∃ x, Fr ops val a0 (fun j => decide (j < k) || es.contains j) x ∧
   (if k = μ then StepG P ops (S false) (S true) x o (val k) else ∀ b, (D k = true → b = true) → StepG P ops (S b) (S b) x o (val k))) ∧
   ∃ t', Fr ops val a0 (fun j => decide (j < i + l.length) || es.contains j) { tmps := t', defers := d } ∧ R t'
 | [], i, val0, t, hl, hf, h => ⟨val0, fun _ _ => rfl, fun k o hk ho => absurd ho (by simp; omega), t, hf, h⟩
 | o :: rest, i, val0, t, hl, hf, h => by
  have hi : ops[i]? = some o := hl 0 o (by simp)
  have hl' : ∀ j o', rest[j]? = some o' → ops[i + 1 + j]? = some o' := fun j o' hj => by
   have := hl (j + 1) o' (by simpa using hj)
   rw [show i + 1 + j = i + (j + 1) by omega]; exact this
  have hlen : i + (o :: rest).length = i + 1 + rest.length := by simp only [List.length_cons]; omega
  rw [hlen]
  cases he : es.contains i with
  | true =>
   simp only [SeqD, he, if_true] at h
   have hf1 : Fr ops val0 a0 (fun j => decide (j < i + 1) || es.contains j) { tmps := t, defers := d } := fr_congr hf (fun j hj => by
    rw [Bool.eq_iff_iff]
    simp only [Bool.or_eq_true, decide_eq_true_eq]
    constructor
    ·rintro (h1 | h1)
     ·rcases Nat.lt_or_ge j i with h2 | h2
      ·exact .inl h2
      ·obtain rfl : j = i := by omega
       exact .inr he
     ·exact .inr h1
    ·rintro (h1 | h1)
     ·exact .inl (by omega)
     ·exact .inr h1) (fun _ _ => rfl)
   obtain ⟨val, hv, hsteps, hend⟩ := seqD_vals ok h0 h1S rest (i + 1) val0 t hl' hf1 h
   refine ⟨val, fun j hj => hv j (hj.imp (by omega) id), fun k ok' hk hkl hke hko => ?_, hend⟩
   by_cases hki : k = i
   ·subst hki; rw [he] at hke; cases hke
   ·exact hsteps k ok' (by omega) hkl hke hko
  | false =>
   simp only [SeqD, he, Bool.false_eq_true, if_false] at h
   obtain ⟨F, hF, hrest⟩ := h
   have hput : ∃ v, (Region.wanted o (yielded ops t) = false → v = undef) ∧ ({ tmps := F, defers := d } : Act) = ({ tmps := t, defers := d } : Act).put o.dst v := by
    by_cases hiμ : i = μ
    ·rw [if_pos hiμ] at hF; exact put_of (hF w0 h0)
    ·rw [if_neg hiμ] at hF; exact put_of (hF true w1 (fun _ => rfl) h1S)
   obtain ⟨v, hvu, hput⟩ := hput
   have hst : if i = μ then StepG P ops (S false) (S true) { tmps := t, defers := d } o v else ∀ b, (D i = true → b = true) → StepG P ops (S b) (S b) { tmps := t, defers := d } o v := by
    by_cases hiμ : i = μ
    ·rw [if_pos hiμ] at hF ⊢
     exact stepG_of hvu hput hF
    ·rw [if_neg hiμ] at hF ⊢
     exact fun b hb => stepG_of hvu hput fun w => hF b w hb
   let val1 : Nat → Value := fun j => if j = i then v else val0 j
   have hne : ∀ j, (decide (j < i) || es.contains j) = true → j ≠ i := fun j hj hji => by
    subst hji
    rw [he] at hj
    simp at hj
   have hf1 : Fr ops val1 a0 (fun j => decide (j < i) || es.contains j) { tmps := t, defers := d } := fr_congr hf (fun _ _ => rfl) (fun j hj => by
    show (if j = i then v else val0 j) = _
    rw [if_neg (hne j hj)])
   have hv1 : val1 i = v := if_pos rfl
   have hf2 : Fr ops val1 a0 (fun j => decide (j < i + 1) || es.contains j) { tmps := F, defers := d } := by
    rw [hput, ← hv1]
    exact fr_put ok hi hf1 fun j _ => by
     rw [Bool.eq_iff_iff]
     simp only [Bool.or_eq_true, decide_eq_true_eq, beq_iff_eq]
     constructor
     ·rintro (h1 | h1)
      ·rcases Nat.lt_or_ge j i with h2 | h2
       ·exact .inl (.inl h2)
       ·exact .inr (by omega)
      ·exact .inl (.inr h1)
     ·rintro ((h1 | h1) | h1)
      ·exact .inl (by omega)
      ·exact .inr h1
      ·exact .inl (by omega)
   obtain ⟨val, hv, hsteps, hend⟩ := seqD_vals ok h0 h1S rest (i + 1) val1 F hl' hf2 hrest
   refine ⟨val, fun j hj => ?_, fun k ok' hk hkl hke hko => ?_, hend⟩
   ·rw [hv j (hj.imp (by omega) id)]
    show (if j = i then v else val0 j) = _
    rw [if_neg (hne j (by rcases hj with h1 | h1 <;> rw [Bool.or_eq_true] <;> first | exact .inl (decide_eq_true h1) | exact .inr h1))]
   ·by_cases hki : k = i
    ·subst hki
     rw [hi] at hko
     cases hko
     refine ⟨_, fr_congr hf1 (fun _ _ => rfl) (fun j hj => hv j ?_), ?_⟩
     ·rcases Bool.or_eq_true .. ▸ hj with h1 | h1
      ·exact .inl (Nat.lt_succ_of_lt (of_decide_eq_true h1))
      ·exact .inr h1
     ·rw [hv k (by omega), hv1]
      exact hst
    ·exact hsteps k ok' (by omega) hkl hke hko
theorem region_mixD {id : Nat} {l : List Oper} {t : Array Value} {d : List Deferred} {w : World} (D : Nat → Bool) (S : Bool → World → Prop) (μ k : Nat) (es : List Nat) (hDk : ((List.range l.toArray.size).all fun i => !D i || waits l.toArray l.toArray.size i μ) = true) {w1 : World} (hS1 : S true w1) (hm : P.follows .mixedOrders = true) (hok : mixOk l.toArray μ k es = true)
  (hQ0 : ∀ c (a : Act) (x : Tmp) v w, Q (.panic c) (a.put (some x) v) w → Q (.panic c) a w) (hS : S false w.drew)
  (h : SeqE P l.toArray d (fun t' => SeqD D P l.toArray S μ es d (fun t'' => ∀ w', S (decide (μ < k)) w' → wpList P l.toArray Q (rest l.toArray es (l.length - k) k) { tmps := t'', defers := d } w') 0 (l.take k) t') es t) :
  (Code.region id l.toArray true).wp P Q { tmps := t, defers := d } w := by
 have hQ : ∀ c (a : Act) dst v w, Q (.panic c) (a.put dst v) w → Q (.panic c) a w := fun c a dst v w h => by
  cases dst with
  | none => exact h
  | some x => exact hQ0 c a x v w h
 simp only [mixOk, Bool.and_eq_true, decide_eq_true_eq, Bool.not_eq_true'] at hok
 obtain ⟨⟨⟨⟨⟨⟨⟨hok, hes⟩, hμ⟩, ht⟩, hk⟩, htk⟩, hns⟩, hcnt⟩ := hok
 have ok := okOps_spec hok
 have hlen : l.toArray.size = l.length := by simp
 have helt : ∀ e ∈ es, e < l.toArray.size := fun e he => by
  have := List.all_eq_true.1 hes e he
  cases ho : l.toArray[e]? with
  | none => rw [ho] at this; simp at this
  | some o => exact lt_of_some ho
 refine wp_region_any hm ?_
 obtain ⟨f, hf⟩ : ∃ f, l.toArray.size = f + es.length := ⟨l.toArray.size - es.length, by omega⟩
 have hfold := fold_getD (n := l.toArray.size) es (Array.replicate l.toArray.size false) (by simp) helt
 have hgd : ∀ j, (es.foldl (fun L e => L.setIfInBounds e true) (Array.replicate l.toArray.size false)).getD j false = es.contains j := fun j => by rw [hfold.2 j, rep_false]; simp
 have main : wpAny P .any l.toArray Q (f + es.length) (Array.replicate l.toArray.size false) { tmps := t, defers := d } { w with drawn := w.drawn + 1 } := by
  refine any_take (R := _) ok hns hQ es _ f t (fun _ => undef) (by simp) htk (fr_start _ _ _ fun i _ => rep_false _ i) h fun t' val0 hfr hR => ?_
  have hfr0 : Fr l.toArray val0 { tmps := t, defers := d } (fun j => decide (j < 0) || es.contains j) { tmps := t', defers := d } := fr_congr hfr (fun j _ => by rw [hgd]; simp) (fun _ _ => rfl)
  obtain ⟨val, hv, hsteps, t'', hfx, hR'⟩ := seqD_vals ok hS hS1 (l.take k) 0 val0 t' (fun j o hj => by
   rw [List.getElem?_take] at hj
   split at hj
   ·simpa using hj
   ·cases hj) hfr0 hR
  have hlk : 0 + (l.take k).length = k := by rw [List.length_take]; omega
  rw [hlk] at hsteps hfx
  refine any_mixD ok (S := S) (μ := μ) (k := k) (es := es) hes hμ (by omega) ht (fun i hi hd => by
   have := List.all_eq_true.1 hDk i (List.mem_range.2 hi)
   simpa [hd] using this) (val := val) (a0 := { tmps := t, defers := d }) (fun i o hi he ho => hsteps i o (Nat.zero_le _) hi he ho) (fun y hy w' hS' => ?_) _ _ _ _ hfold.1 ?_ ?_ ?_ ?_ ?_ ?_
  ·rw [fr_eq hy hfx fun _ _ => rfl]
   exact hR' w' hS'
  ·rw [show (fun i => (es.foldl (fun L e => L.setIfInBounds e true) (Array.replicate l.toArray.size false)).getD i false) = fun j => es.contains j from funext hgd]
   omega
  ·intro i o hi hl e he hb
   rw [hgd] at hl ⊢
   exact esOk_spec hes hi hl e he hb
  ·intro i hi hl
   rw [hgd] at hl
   exact .inr hl
  ·intro i hi he
   rw [hgd]; exact he
  ·exact fr_congr hfr (fun _ _ => rfl) (fun j hj => hv j (.inr (by rw [hgd] at hj; exact hj)))
  ·rw [hgd, hμ]; exact hS
 rw [← hf] at main
 exact main
theorem region_mixD' {id : Nat} {l : List Oper} {t : Array Value} {d : List Deferred} {w : World} (D : Nat → Bool) (S : Bool → World → Prop) (μ k : Nat) (es : List Nat) (hDk : ((List.range l.toArray.size).all fun i => !D i || waits l.toArray l.toArray.size i μ) = true) {w1 : World} (hS1 : S true w1) (hm : P.follows .mixedOrders = true) (hok : (mixOk l.toArray μ k es && es.all fun e => decide (e < k)) = true)
  (hQ0 : ∀ c (a : Act) (x : Tmp) v w, Q (.panic c) (a.put (some x) v) w → Q (.panic c) a w) (hS : S false w.drew)
  (h : SeqE P l.toArray d (fun t' => SeqD D P l.toArray S μ es d (fun t'' => ∀ w', S (decide (μ < k)) w' → wpList P l.toArray Q (l.drop k) { tmps := t'', defers := d } w') 0 (l.take k) t') es t) :
  (Code.region id l.toArray true).wp P Q { tmps := t, defers := d } w := by
 simp only [Bool.and_eq_true, List.all_eq_true, decide_eq_true_eq] at hok
 have hk : k ≤ l.length := by
  have := hok.1
  simp only [mixOk, Bool.and_eq_true, decide_eq_true_eq] at this
  have := this.1.1.1.2
  simpa using this
 refine region_mixD D S μ k es hDk hS1 hm hok.1 hQ0 hS ?_
 rw [rest_drop (ops := l.toArray) (l.length - k) k (by simp; omega) hok.2]
 exact h
end Go.Mix
namespace Go.Proofs.Ythcmfjpheanphaa.Pr
open Go.RowKit Go.Maps Go.Proofs.YthcmfjpheanphaaW.PrintWords
open Go.Proofs.YthcmfjpheanphaaW.PrintLast Go.Proofs.YthcmfjpheanphaaW.PrintMore
attribute [local go_sem] Oper.semAt_some max2_int max_two
def InOk (x : S47) : Prop := x.f2.size ≤ 1000000 ∧ 0 ≤ x.f1 ∧ x.f1 ≤ 255
structure OpB (k : Nat) (o : S159) : Prop where
 a : o.f1.size ≤ k
 b : o.f5.size ≤ 1000000 * k
 c : 0 ≤ o.f3
 d : o.f3 ≤ k
structure RB (s : RSt) (k : Nat) : Prop where
 pos : 0 < s.r.length
 row : s.r.length ≤ k + 1
 t : s.t.length ≤ k
 ops : ∀ o ∈ s.r, OpB k o
theorem RB0 : RB read0 0 := ⟨by decide, by decide, by decide, fun o ho => by
 rw [List.mem_singleton.1 ho]
 exact ⟨by decide, by decide, by decide, by decide⟩⟩
theorem OpB.up {k : Nat} {o : S159} (h : OpB k o) : OpB (k + 1) o := ⟨by have := h.a; omega, by have := h.b; omega, h.c, by have := h.d; omega⟩
theorem mem_modR {l : List S159} {f : S159 → S159} {j : Nat} {x : S159} (h : x ∈ l.modify j f) : ∃ y ∈ l, x = y ∨ x = f y := by
 rw [List.mem_iff_getElem?] at h
 obtain ⟨i, hi⟩ := h
 rw [List.getElem?_modify] at hi
 cases hl : l[i]? with
 | none => rw [hl] at hi; simp at hi
 | some y =>
  rw [hl] at hi
  simp only [Option.map_eq_map, Option.map_some, Option.some.injEq] at hi
  refine ⟨y, List.mem_of_getElem? hl, ?_⟩
  split at hi
  ·exact .inr hi.symm
  ·exact .inl hi.symm
theorem byteB_size (k : Int) : (byteB k).size = 1 := rfl
structure OpX (k a b c : Nat) (o : S159) : Prop where
 e1 : o.f1.size ≤ k + a
 e2 : o.f5.size ≤ 1000000 * k + 1000000 * b
 e3 : 0 ≤ o.f3
 e4 : o.f3 ≤ k + c
theorem RB_step {s s' : RSt} {k : Nat} {x : S47} (h : RB s k) (hx : InOk x) (hs : rstep s x = some s') : RB s' (k + 1) := by
 have up : ∀ {a b c : Nat} {r : List S159}, (∀ o ∈ r, OpX k a b c o) → a ≤ 1 → b ≤ 1 → c ≤ 1 → ∀ o ∈ r, OpB (k + 1) o := fun hr ha hb hc o ho => by
  obtain ⟨h1, h2, h3, h4⟩ := hr o ho
  exact ⟨by omega, by omega, h3, by omega⟩
 have h00 : ∀ o ∈ s.r, OpX k 0 0 0 o := fun o ho => by
  obtain ⟨h1, h2, h3, h4⟩ := h.ops o ho
  exact ⟨by omega, by omega, h3, by omega⟩
 have hkid : ∀ b : ByteArray, b.size = 1 → ∀ o ∈ s.r.modify (s.r.length - 1) (kidR b), OpX k 1 0 0 o := fun b hb o ho => by
  obtain ⟨y, hy, rfl | rfl⟩ := mem_modR ho
  ·obtain ⟨h1, h2, h3, h4⟩ := h00 _ hy
   exact ⟨by omega, by omega, h3, by omega⟩
  ·obtain ⟨h1, h2, h3, h4⟩ := h00 _ hy
   exact ⟨by show (y.f1 ++ b).size ≤ _; rw [ByteArray.size_append]; omega, h2, h3, h4⟩
 unfold rstep at hs
 by_cases h1 : x.f0 = 1
 ·rw [if_pos h1] at hs
  by_cases ht : textsR s.r = true
  ·rw [if_pos ht] at hs
   obtain rfl := Option.some.inj hs
   have hlen : (addText x.f2 (s.r.modify (s.r.length - 1) (kidR dotB))).length = s.r.length := by
    unfold addText; split <;> simp
   refine ⟨by show 0 < List.length _; rw [hlen]; exact h.pos, by show List.length _ ≤ _; rw [hlen]; have := h.row; omega, by have := h.t; simp; omega, up (a := 1) (b := 1) (c := 0) (fun o ho => ?_) (by omega) (by omega) (by omega)⟩
   have ho' : o ∈ addText x.f2 (s.r.modify (s.r.length - 1) (kidR dotB)) := ho
   unfold addText at ho'
   split at ho'
   ·obtain ⟨y, hy, rfl | rfl⟩ := mem_modR ho'
    ·obtain ⟨h1, h2, h3, h4⟩ := hkid dotB rfl _ hy
     exact ⟨by omega, by omega, h3, by omega⟩
    ·obtain ⟨h1, h2, h3, h4⟩ := hkid dotB rfl _ hy
     exact ⟨h1, by show (y.f5 ++ x.f2).size ≤ _; rw [ByteArray.size_append]; have := hx.1; omega, h3, h4⟩
   ·obtain ⟨h1, h2, h3, h4⟩ := hkid dotB rfl _ ho'
    exact ⟨by omega, by omega, h3, by omega⟩
  ·rw [if_neg ht] at hs
   obtain rfl := Option.some.inj hs
   exact ⟨h.pos, by have := h.row; omega, by have := h.t; omega, fun o ho => (h.ops o ho).up⟩
 ·rw [if_neg h1] at hs
  by_cases h2 : x.f0 = 2
  ·rw [if_pos h2] at hs
   obtain rfl := Option.some.inj hs
   have hlen : (addNote x.f1 (s.r.modify (s.r.length - 1) (kidR (byteB x.f1)))).length = s.r.length := by
    unfold addNote; split <;> simp
   refine ⟨by simp, by show List.length _ ≤ _; rw [List.length_append, hlen]; have := h.row; simp; omega, by have := h.t; simp; omega, up (a := 1) (b := 0) (c := 1) (fun o ho => ?_) (by omega) (by omega) (by omega)⟩
   have ho' : o ∈ addNote x.f1 (s.r.modify (s.r.length - 1) (kidR (byteB x.f1))) ++ [(⟨x.f1, ⟨#[]⟩, s.t.length, 0, 0, ⟨#[]⟩⟩ : S159)] := ho
   rcases List.mem_append.1 ho' with ho' | ho'
   ·unfold addNote at ho'
    split at ho'
    ·obtain ⟨y, hy, rfl | rfl⟩ := mem_modR ho'
     ·obtain ⟨h1, h2, h3, h4⟩ := hkid _ (byteB_size x.f1) _ hy
      exact ⟨by omega, by omega, h3, by omega⟩
     ·obtain ⟨h1, h2, h3, h4⟩ := hkid _ (byteB_size x.f1) _ hy
      exact ⟨h1, h2, by show 0 ≤ y.f3 + 1; omega, by show y.f3 + 1 ≤ _; omega⟩
    ·obtain ⟨h1, h2, h3, h4⟩ := hkid _ (byteB_size x.f1) _ ho'
     exact ⟨by omega, by omega, h3, by omega⟩
   ·rw [List.mem_singleton.1 ho']
    exact ⟨Nat.zero_le _, Nat.zero_le _, Int.le_refl _, by show (0 : Int) ≤ _; omega⟩
  ·rw [if_neg h2] at hs
   split at hs
   ·rename_i hc
    obtain rfl := Option.some.inj hs
    have hlen : (addCols s.r).length = s.r.length := by unfold addCols; split <;> simp
    refine ⟨by simp [hlen]; omega, by simp [hlen]; have := h.row; omega, by have := h.t; simp; omega, fun o ho => ?_⟩
    have ho' : o ∈ addCols s.r := List.dropLast_subset _ ho
    unfold addCols at ho'
    split at ho'
    ·obtain ⟨y, hy, rfl | rfl⟩ := mem_modR ho'
     ·exact (h.ops _ hy).up
     ·have := (h.ops _ hy).up
      exact ⟨this.a, this.b, this.c, this.d⟩
    ·exact (h.ops _ ho').up
   ·cases hs
theorem own_first (w : World) : (w.alloc (.cells (cells9 z159).toArray 159)).ownsRow w.heap.size 159 6 (.slice (some ⟨w.heap.size, 0, none⟩) 1 1) 1 (flatQ [z159]) :=
 ⟨rfl, .inr ⟨w.heap.size, 1, (cells9 z159).toArray, rfl, Nat.le_refl _, heap_alloc_new w _, Nat.le_refl _, by decide, rfl, rfl⟩⟩
theorem flatQ_drop (r : List S159) : (flatQ r).take (r.dropLast.length * 6) = flatQ r.dropLast := by
 rcases List.eq_nil_or_concat r with rfl | ⟨r', x, rfl⟩
 ·rfl
 ·rw [List.concat_eq_append, List.dropLast_concat, flatQ_snoc, List.take_append_of_le_length (by rw [flatQ_length]; omega), List.take_of_length_le (by rw [flatQ_length]; omega)]
theorem RAt.dropR {W : World} {B0 c n : Nat} {A : Option Addr} {vt : Value} {s : RSt} (h : RAt W B0 (.slice A (n + 1) c) vt s) : RAt W B0 (.slice A n c) vt ⟨s.t, s.r.dropLast⟩ := by
 have e := own_num h.row
 refine ⟨?_, h.t⟩
 have h1 : W.ownsRow B0 159 6 (.slice A (n + 1) c) (n + 1) (flatQ s.r) := by rw [e]; rw [← e]; have := h.row; unfold Row9 at this; rw [← e] at this; exact this
 have h2 := own_take h1 (m := n) (by omega)
 have hl : s.r.dropLast.length = n := by rw [List.length_dropLast]; omega
 unfold Row9
 show W.ownsRow B0 159 6 _ s.r.dropLast.length (flatQ s.r.dropLast)
 rw [← flatQ_drop, hl]
 exact h2
theorem lastR_range (ks : ByteArray) (r : List S159) : ∀ n : Nat, -1 ≤ lastR ks r n ∧ lastR ks r n ≤ n
 | 0 => ⟨Int.le_refl _, by show (-1 : Int) ≤ _; omega⟩
 | n + 1 => by
  have := lastR_range ks r n
  simp only [lastR]
  split <;> omega
theorem info159 : (Try.prog.info? 159).map (fun i => (i.zero, i.size, i.bytes)) = some (some (.agg #[(.int .u8 0), (.string ⟨#[]⟩), (.int .i64 0), (.int .i64 0), (.int .i64 0), (.string ⟨#[]⟩)]), 6, 64) := by kernel_rfl
theorem str_one (k : Int) : strOfNums [k] = byteB k := rfl
def stylusref04_Read.f (l0 : List S47) : Option (List S56 × List S159) := if l0.length ≤ 800000 ∧ (l0.all fun x => decide (x.f2.size ≤ 1000000) && decide (0 ≤ x.f1) && decide (x.f1 ≤ 255)) = true then (readP read0 l0).map fun s => (s.t, s.r) else none
set_option pp.maxSteps 3000 in
set_option maxRecDepth 100000 in
set_option maxHeartbeats 16000000 in
theorem read_calls (A0 : Option Addr) (c0 : Nat) (l : List S47) (R : RSt) (w : World) (hl : l.length ≤ 800000) (hok : ∀ x ∈ l, InOk x) (hA : Kd.C k47 w A0 l.length l) (hc0 : l.length ≤ c0) (hR : readP read0 l = some R) :
  Calls Try.prog 95 #[.slice A0 l.length c0] w fun e w' => ∃ v0_ v1_ : Value, e = .returned (.tuple #[v0_, v1_]) ∧ RAt w' w.heap.size v1_ v0_ R ∧ Below w.heap.size w w' := by
 have HA := Lib.hid hA
 have HOK := Lib.hid hok
 have HR := Lib.hid hR
 clear hA hok hR
 go_enter Try.func95, Try.ntmps95
 go_wp2_with fail
 have h0 : RAt (w.alloc (.cells (cells9 z159).toArray 159)) w.heap.size (.slice (some ⟨w.heap.size, 0, none⟩) 1 1) (.slice none 0 0) read0 := ⟨own_first w, rfl, .inl ⟨rfl, rfl⟩⟩
 have H0 := Lib.hid h0
 have HB0 := Lib.hid (show Below w.heap.size w (w.alloc (.cells (cells9 z159).toArray 159)) from (Below.refl _ _).alloc (Nat.le_refl _) _)
 clear h0
 go_loopw [4, 5, 6] (fun v4 v5 v6 wr => ∃ (k : Nat) (s : RSt), k ≤ l.length ∧ v6 = .int .i64 k ∧ RAt wr w.heap.size v4 v5 s ∧ RB s k ∧ Below w.heap.size w wr ∧ readP s (l.drop k) = some R) (fun _ _ v6 _ => l.length - (intOf v6).toNat)
 case atStart => exact ⟨0, read0, Nat.zero_le _, rfl, H0.out, RB0, HB0.out, HR.out⟩
 case round =>
  obtain ⟨k, s, hk, rfl, hat, hrb, hW, hrun⟩ := hrel
  obtain ⟨Ar, cr, rfl⟩ := own_slice hat.row
  obtain ⟨At, ct, rfl⟩ := own_slice hat.t
  have HAT := Lib.hid hat
  have HRB := Lib.hid hrb
  have HW := Lib.hid hW
  have HRUN := Lib.hid hrun
  have hpos := hrb.pos
  have hrl := hrb.row
  have htl := hrb.t
  clear hat hrb hW hrun
  by_cases hlt : k < l.length
  ·have hlt1 : (k : Int) < (l.length : Int) := by omega
   obtain ⟨ad, e1, q0, q1, q2, q3⟩ := at_T47 (Kd.C_below HA.out HW.out) k (by omega) (by omega)
   subst e1
   simp only [Int.toNat_natCast] at q0 q1 q2 q3
   have hdrop : l.drop k = rd_T47 l k :: l.drop (k + 1) := by
    rw [List.drop_eq_getElem_cons hlt]
    congr 1
    unfold rd_T47
    rw [Int.toNat_natCast, List.getD_eq_getElem?_getD, List.getElem?_eq_getElem hlt]
    rfl
   have hxok : InOk (rd_T47 l k) := by
    refine HOK.out _ ?_
    have : rd_T47 l k ∈ l.drop k := by rw [hdrop]; exact List.mem_cons_self
    exact List.mem_of_mem_drop this
   have hst := HRUN.out
   rw [hdrop] at hst
   simp only [readP] at hst
   clear hdrop HRUN
   have hq : ∀ W, Below w.heap.size w W → W.cell? (ad.add (k * 4)) = some (.int .i64 (rd_T47 l k).f0) ∧ W.cell? ⟨(ad.add (k * 4)).block, (ad.add (k * 4)).off + 1, none⟩ = some (.int .u8 (rd_T47 l k).f1) ∧ W.cell? ⟨(ad.add (k * 4)).block, (ad.add (k * 4)).off + 2, none⟩ = some (.string (rd_T47 l k).f2) ∧ W.cell? ⟨(ad.add (k * 4)).block, (ad.add (k * 4)).off + 3, none⟩ = some (.int .i64 (rd_T47 l k).f3) := fun W hW => by
    obtain ⟨ad', e, h⟩ := at_T47 (Kd.C_below HA.out hW) k (by omega) (by omega)
    cases e
    simpa only [Int.toNat_natCast] using h
   generalize rd_T47 l k = x at *
   cases hs : rstep s x with
   | none => rw [hs] at hst; cases hst
   | some s' =>
    rw [hs, Option.bind_some] at hst
    have HS := Lib.hid hs
    have HST := Lib.hid hst
    have HRB2 := Lib.hid (RB_step HRB.out hxok hs)
    have hxs := hxok.1
    have hx1 := hxok.2.1
    have hx2 := hxok.2.2
    clear hs hst hxok
    obtain ⟨f0, f1, f2, f3⟩ := x
    simp only at q0 q1 q2 q3 hxs hx1 hx2 hq
    have HQ := Lib.hid hq
    clear hq
    obtain ⟨gr, cr', er⟩ := own_form HAT.out.row hpos
    simp only [Value.slice.injEq] at er
    obtain ⟨rfl, -, rfl⟩ := er
    have hCr := HAT.out.reads
    by_cases h1 : f0 = 1
    ·have e1 : (f0 == 1) = true := beq_iff_eq.2 h1
     have hs := HS.out
     unfold rstep at hs
     rw [if_pos h1] at hs
     obtain ⟨n, hn⟩ : ∃ n, s.r.length = n + 1 := ⟨s.r.length - 1, by omega⟩
     have hn1 : s.r.length - 1 = n := by omega
     simp only [hn1] at hs
     have HAT2 := Lib.hid (show RAt wr w.heap.size (.slice (some ⟨gr, 0, none⟩) (n + 1) cr) (.slice At s.t.length ct) s from hn ▸ HAT.out)
     have HN := Lib.hid hn
     obtain ⟨o, ho⟩ : ∃ o, s.r.getD n z159 = o := ⟨_, rfl⟩
     have htop : topR s.r = o := by unfold topR rd_T159; rw [hn1, Int.toNat_natCast]; exact ho
     have hsz : o.f1.size ≤ 800000 := by
      have hmem : o ∈ s.r := by
       rw [← ho, List.getD_eq_getElem?_getD, List.getElem?_eq_getElem (by omega)]
       exact List.getElem_mem _
      have := (HRB.out.ops o hmem).a
      omega
     have HO := Lib.hid ho
     have hnb : n ≤ 800000 := by omega
     have htb : s.t.length ≤ 800000 := by omega
     have hrd := HAT2.out.reads
     have htx := stylusref04_Texts.calls (o.f1.size + 101) (some ⟨gr, 0, none⟩) cr s.r (textsR s.r) wr hrd.2.2 (by omega) (texts_f s.r (by omega) (by omega) (by rw [htop]; omega) _ (by rw [htop]; exact Nat.le_refl _))
     rw [hn] at htx
     rw [hn]
     by_cases htt : textsR s.r = true
     ·rw [if_pos htt] at hs
      have hs' := Option.some.inj hs
      rw [htt] at htx
      have HTX := Lib.hid htx
      have HS' := Lib.hid hs'
      clear hs hs' h1 hn hn1 ho htop hrd htx htt
      go_wp2_with fail
      refine HTX.out.mono ?_
      rintro _ W4 ⟨rfl, hb4⟩
      have hAT4 := HAT2.out.below hb4
      have xc := row9_cell hAT4.row n 1 (by have := HN.out; omega) (by omega)
      rw [HO.out] at xc
      simp only [cells9, List.getElem?_cons_succ, List.getElem?_cons_zero] at xc
      obtain ⟨t1, t2, t3⟩ := hAT4.setR n 1 (by have := HN.out; omega) (by omega) (kidR dotB) (.string (o.f1 ++ ⟨#[46]⟩)) (by rw [HO.out]; rfl)
      obtain ⟨W6, hW6⟩ : ∃ W6, W4.setCell ⟨gr, n * 6 + 1, none⟩ (.string (o.f1 ++ ⟨#[46]⟩)) = W6 := ⟨_, rfl⟩
      rw [hW6] at t1 t2
      have hB6 : Below w.heap.size w W6 := (HW.out.trans (hb4.mono HW.out.size)).trans t2
      obtain ⟨r1, hr1⟩ : ∃ r1, s.r.modify n (kidR dotB) = r1 := ⟨_, rfl⟩
      have hs2 := HS'.out
      rw [hr1] at t1 hs2
      have hrl1 : r1.length = n + 1 := by rw [← hr1, List.length_modify, HN.out]
      have hopb : ∀ y ∈ r1, y.f5.size ≤ 1000000 * 800000 := fun y hy => by
       rw [← hr1] at hy
       obtain ⟨z, hz, h | h⟩ := mem_modR hy
       ·have := (HRB.out.ops z hz).b
        rw [h]; omega
       ·have := (HRB.out.ops z hz).b
        rw [h]; show z.f5.size ≤ _; omega
      have HOPB := Lib.hid hopb
      have HS2 := Lib.hid hs2
      have HQ6 := Lib.hid t1
      have HB6 := Lib.hid hB6
      have HRL := Lib.hid hrl1
      have hcat := fun W => run_string_add_sum (P := Try.prog) (w := W) o.f1 ⟨#[46]⟩ (by show o.f1.size + 1 ≤ _; omega)
      clear q0 q1 q2 q3 hb4 hAT4 t1 t2 hr1 hB6 hrl1 hs2 hopb
      go_wp2_with fail
      obtain ⟨W7, hW7⟩ : ∃ W7, W6.drew = W7 := ⟨_, rfl⟩
      have HB7 := Lib.hid (show Below w.heap.size w W7 by rw [← hW7]; exact below_drew1 HB6.out)
      have HQ7 := Lib.hid (HQ6.out.below (show Below W6.heap.size W6 W7 by rw [← hW7]; exact below_drew1 (Below.refl _ _)))
      have HW7 := Lib.hid hW7
      clear hW7 hcat xc t3 hW6
      refine Go.Mix.region_mix' (fun b W => W = (bif b then W7.alloc (.cells #[.int .u8 46, .string f2, .int .i64 f3, .int .i64 1] 56) else W7)) 12 13 [] (by kernel_rfl) (by kernel_rfl) (fun _ _ _ _ _ h => h) HW7.out ?_
      refine Go.Mix.seqE_nil ?_
      repeat
       apply Go.Mix.seqM_cons (by rfl) (by rfl)
       focus
        intro b W hS
        have hB : Below w.heap.size w W := by
         rw [hS]
         cases b
         ·exact HB7.out
         ·exact HB7.out.alloc HB7.out.size _
        obtain ⟨p0, p1, p2, p3⟩ := HQ.out W hB
        have HSS := Lib.hid hS
        clear hS hB
        go_wp2
        exact Go.Det.AtEnd.mk HSS.out
      apply Go.Mix.seqM_main (by rfl)
      focus
       intro W hS
       obtain rfl : W = W7 := hS
       go_wp2
       exact Go.Det.AtEnd.mk rfl
      refine Go.Mix.seqM_nil ?_
      intro W8 hW8
      obtain rfl : W8 = W7.alloc (.cells #[.int .u8 46, .string f2, .int .i64 f3, .int .i64 1] 56) := hW8
      simp only [List.drop_succ_cons, List.drop_zero]
      obtain ⟨j0, gi, gz0, gz1, gz2⟩ := info_parts info56
      have hrow7 : W7.ownsRow w.heap.size 56 4 (.slice At s.t.length ct) s.t.length (flat56 s.t) := HQ7.out.t
      go_wp2_with (at_builtin; refine wpList_append_own_at _ rfl _ _ 50 rfl w.heap.size 56 j0 (.agg #[(.int .u8 0), (.string ⟨#[]⟩), (.int .i64 0), (.int .i64 0)]) 4 40 Try.underlying50 gi gz0 gz1 gz2 rfl (by decide) _ _ _ rfl (hrow7.alloc _) _ 1 1 (cells6 ⟨46, f2, f3, 1⟩) rfl rfl ?d1x ?d2x ?d3x ?d4x ?d5x ?d6x)
      case d1x => exact cells_newT W7 (cells6 ⟨46, f2, f3, 1⟩) 56
      case d2x => simp [cells6, Value.oneCell']
      case d3x => unfold maxLen; omega
      case d4x => omega
      case d5x => have := HB7.out.size; simp; omega
      case d6x =>
       intro v8 W9 hown' hgrow _ _
       have hq9 := RAt.pushT (x := ⟨46, f2, f3, 1⟩) HQ7.out hgrow hown'
       have hb9 : Below w.heap.size w W9 := ((HB7.out.alloc HB7.out.size _)).grown hgrow (by have := HB7.out.size; simp; omega) fun k hk => own_base hrow7 k hk
       have hrd := hq9.reads
       have hlast := stylusref04_last.calls (r1.length + 102) (some ⟨gr, 0, none⟩) cr r1 ⟨#[110]⟩ (lastP nB r1) W9 hrd.2.2 (by have := hrd.2.1; have := HRL.out; omega) (last_f nB (by decide) r1 (by have := HRL.out; omega) (by have := HRL.out; omega) _ (Nat.le_refl _))
       rw [HRL.out] at hlast
       have hjb := lastR_range nB r1 n
       have hle : lastP nB r1 = lastR nB r1 n := by unfold lastP; rw [HRL.out]; rfl
       rw [← hle] at hjb
       have hs3 : (⟨s.t ++ [⟨46, f2, f3, 1⟩], if 0 < lastP nB r1 then r1.modify (lastP nB r1).toNat (textR f2) else r1⟩ : RSt) = s' := HS2.out
       obtain ⟨L, hL⟩ : ∃ L, lastP nB r1 = L := ⟨_, rfl⟩
       rw [hL] at hlast hjb hs3
       have HLC := Lib.hid hlast
       have HS3 := Lib.hid hs3
       have HQ9 := Lib.hid hq9
       have HB9 := Lib.hid hb9
       clear hown' hgrow hq9 hb9 hrow7 hlast hL hle hs3 hrd
       go_wp2_with fail
       refine HLC.out.mono ?_
       rintro _ Wd ⟨rfl, hd⟩
       have hbd := hd.below
       have HQd := Lib.hid (HQ9.out.below hbd)
       have HBd := Lib.hid (HB9.out.trans (hbd.mono HB9.out.size))
       clear hd hbd
       by_cases hL0 : 0 < L
       ·have HS4 := HS3.out
        rw [if_pos hL0] at HS4
        obtain ⟨jn, rfl⟩ : ∃ jn : Nat, L = (jn : Int) := ⟨L.toNat, by omega⟩
        rw [Int.toNat_natCast] at HS4
        have hjl : jn < n + 1 := by omega
        have HS5 := Lib.hid HS4
        obtain ⟨ob, hob⟩ : ∃ ob, r1.getD jn z159 = ob := ⟨_, rfl⟩
        have hsz5 : ob.f5.size ≤ 1000000 * 800000 := by
         refine HOPB.out ob ?_
         rw [← hob, List.getD_eq_getElem?_getD, List.getElem?_eq_getElem (by have := HRL.out; omega)]
         exact List.getElem_mem _
        have HOB := Lib.hid hob
        have hcat5 := fun W => run_string_add_sum (P := Try.prog) (w := W) ob.f5 f2 (by omega)
        have HC5 := Lib.hid hcat5
        clear HS4 hob hcat5 hjb
        go_wp2_with fail
        refine Go.Det.region_det (fun W' => Below Wd.heap.size Wd W') 15 (by kernel_rfl) (by kernel_rfl) (by kernel_rfl) (by decide) (below_drew (Below.refl _ _)) ?_
        repeat
         apply Go.Det.seqW_cons
         focus
          intro W' hS'
          replace hS' : Below Wd.heap.size Wd W' := hS'
          have x5 := row9_cell (HQd.out.below hS').row jn 5 (by show jn < r1.length; have := HRL.out; omega) (by omega)
          rw [HOB.out] at x5
          simp only [cells9, List.getElem?_cons_succ, List.getElem?_cons_zero] at x5
          obtain ⟨p0, p1, p2, p3⟩ := HQ.out W' (HBd.out.trans (hS'.mono HBd.out.size))
          have hcat := HC5.out
          have HSS := Lib.hid hS'
          clear hS'
          go_wp2
          exact Go.Det.AtEnd.mk HSS.out
        refine Go.Det.seqW_nil ?_
        intro W' hS'
        replace hS' : Below Wd.heap.size Wd W' := hS'
        have hA5 := HQd.out.below hS'
        have x5 := row9_cell hA5.row jn 5 (by show jn < r1.length; have := HRL.out; omega) (by omega)
        rw [HOB.out] at x5
        simp only [cells9, List.getElem?_cons_succ, List.getElem?_cons_zero] at x5
        obtain ⟨t1, t2, t3⟩ := hA5.setR jn 5 (by show jn < r1.length; have := HRL.out; omega) (by omega) (textR f2) (.string (ob.f5 ++ f2)) (by show cells9 (textR f2 (r1.getD jn z159)) = _; rw [HOB.out]; rfl)
        have HT1 := Lib.hid t1
        have HT2 := Lib.hid ((HBd.out.trans (hS'.mono HBd.out.size)).trans t2)
        clear t1 t2 hA5 hS'
        simp only [List.drop_succ_cons, List.drop_zero]
        go_wp2_with fail
        refine ⟨⟨k + 1, s', by omega, by simp, ?_, HRB2.out, HT2.out, HST.out⟩, by simp only [intOf]; omega⟩
        rw [← HS5.out]
        exact HT1.out
       ·have HS4 := HS3.out
        rw [if_neg hL0] at HS4
        have HS5 := Lib.hid HS4
        clear HS4
        go_wp2_with fail
        refine ⟨⟨k + 1, s', by omega, by simp, ?_, HRB2.out, HBd.out, HST.out⟩, by simp only [intOf]; omega⟩
        rw [← HS5.out]
        exact HQd.out
     ·rw [if_neg htt] at hs
      have hs' := Option.some.inj hs
      have hff : textsR s.r = false := by simpa using htt
      rw [hff] at htx
      have HTX := Lib.hid htx
      have HS' := Lib.hid hs'
      clear hs hs' h1 hn hn1 ho htop hrd htx htt hff
      go_wp2_with fail
      refine HTX.out.mono ?_
      rintro _ W4 ⟨rfl, hb4⟩
      have HA4 := Lib.hid (HAT2.out.below hb4)
      have HB4 := Lib.hid (HW.out.trans (hb4.mono HW.out.size))
      clear hb4
      go_wp2_with fail
      refine ⟨⟨k + 1, s', by omega, by simp, ?_, HRB2.out, HB4.out, HST.out⟩, by simp only [intOf]; omega⟩
      rw [← HS'.out]
      exact HA4.out
    ·by_cases h2 : f0 = 2
     ·have e1 : (f0 == 1) = false := beq_eq_false_iff_ne.2 h1
      have e2 : (f0 == 2) = true := beq_iff_eq.2 h2
      have hs := HS.out
      unfold rstep at hs
      rw [if_neg h1, if_pos h2] at hs
      have hs' := Option.some.inj hs
      obtain ⟨n, hn⟩ : ∃ n, s.r.length = n + 1 := ⟨s.r.length - 1, by omega⟩
      have hn1 : s.r.length - 1 = n := by omega
      simp only [hn1] at hs'
      have HS' := Lib.hid hs'
      have HAT2 := Lib.hid (show RAt wr w.heap.size (.slice (some ⟨gr, 0, none⟩) (n + 1) cr) (.slice At s.t.length ct) s from hn ▸ HAT.out)
      have HN := Lib.hid hn
      obtain ⟨o, ho⟩ : ∃ o, s.r.getD n z159 = o := ⟨_, rfl⟩
      have hsz : o.f1.size ≤ 800000 := by
       have hmem : o ∈ s.r := by
        rw [← ho, List.getD_eq_getElem?_getD, List.getElem?_eq_getElem (by omega)]
        exact List.getElem_mem _
       have := (HRB.out.ops o hmem).a
       omega
      have HO := Lib.hid ho
      obtain ⟨W3, hW3⟩ : ∃ W3, wr.drew = W3 := ⟨_, rfl⟩
      have HB3 := Lib.hid (show Below wr.heap.size wr W3 by rw [← hW3]; exact below_drew1 (Below.refl _ _))
      have HW3 := Lib.hid hW3
      have hnb : n ≤ 800000 := by omega
      have htb : s.t.length ≤ 800000 := by omega
      rw [hn]
      clear hs hs' h1 h2 hn hn1 ho hW3
      go_wp2_with fail
      refine Go.Mix.region_mixD' (fun i => i == 13 || i == 14) (fun b W => W = (bif b then W3.alloc (.cells #[.int .u8 f1] 5) else W3)) 12 15 [] (by kernel_rfl) rfl (by kernel_rfl) (by kernel_rfl) (fun _ _ _ _ _ h => h) HW3.out ?_
      refine Go.Mix.seqE_nil ?_
      repeat
       apply Go.Mix.seqD_cons (by rfl) (by rfl)
       focus
        intro b W hS
        have hB : Below wr.heap.size wr W := by
         rw [hS]
         cases b
         ·exact HB3.out
         ·exact HB3.out.alloc HB3.out.size _
        have x1 := row9_cell (HAT2.out.below hB).row n 1 (by have := HN.out; omega) (by omega)
        rw [HO.out] at x1
        simp only [cells9, List.getElem?_cons_succ, List.getElem?_cons_zero] at x1
        have q1' := (hB.cell (World.block_lt_of_cell? wr _ q1)).trans q1
        have HSS := Lib.hid hS
        clear hS hB
        go_wp2
        exact Go.Det.AtEnd.mk HSS.out
      apply Go.Mix.seqD_main (by rfl)
      focus
       intro W hS
       obtain rfl : W = W3 := hS
       go_wp2
       exact Go.Det.AtEnd.mk rfl
      apply Go.Mix.seqD_dep (by rfl) (by rfl) (by rfl)
      focus
       intro W hS
       obtain rfl : W = W3.alloc (.cells #[.int .u8 f1] 5) := hS
       have hcv := run_convert_bytes_arg (P := Try.prog) (W3.alloc (.cells #[.int .u8 f1] 5)) 68 5 Try.underlying68 Try.underlying5 W3.heap.size 0 1 1 [f1] rfl (fun i hi => by
        obtain rfl : i = 0 := by omega
        rw [blk_cell (blk_new W3 (.cells #[.int .u8 f1] 5))]
        rfl) 9 Try.underlying9
       rw [str_one] at hcv
       go_wp2
       exact Go.Det.AtEnd.mk rfl
      apply Go.Mix.seqD_dep (by rfl) (by rfl) (by rfl)
      focus
       intro W hS
       have HSS := Lib.hid hS
       have hcat := fun W => run_string_add_sum (P := Try.prog) (w := W) o.f1 (byteB f1) (by show o.f1.size + 1 ≤ _; omega)
       clear hS
       go_wp2
       exact Go.Det.AtEnd.mk HSS.out
      refine Go.Mix.seqD_nil ?_
      intro W4 hW4
      obtain rfl : W4 = W3.alloc (.cells #[.int .u8 f1] 5) := hW4
      simp only [List.drop_succ_cons, List.drop_zero]
      have hB4 : Below wr.heap.size wr (W3.alloc (.cells #[.int .u8 f1] 5)) := HB3.out.alloc HB3.out.size _
      have hAT4 := HAT2.out.below hB4
      have xc := row9_cell hAT4.row n 1 (by have := HN.out; omega) (by omega)
      rw [HO.out] at xc
      simp only [cells9, List.getElem?_cons_succ, List.getElem?_cons_zero] at xc
      obtain ⟨t1, t2, t3⟩ := hAT4.setR n 1 (by have := HN.out; omega) (by omega) (kidR (byteB f1)) (.string (o.f1 ++ byteB f1)) (by rw [HO.out]; rfl)
      obtain ⟨W5, hW5⟩ : ∃ W5, (W3.alloc (.cells #[.int .u8 f1] 5)).setCell ⟨gr, n * 6 + 1, none⟩ (.string (o.f1 ++ byteB f1)) = W5 := ⟨_, rfl⟩
      rw [hW5] at t1 t2
      have hB5 : Below w.heap.size w W5 := (HW.out.trans (hB4.mono HW.out.size)).trans t2
      obtain ⟨r1, hr1⟩ : ∃ r1, s.r.modify n (kidR (byteB f1)) = r1 := ⟨_, rfl⟩
      rw [hr1] at t1
      have hrl1 : r1.length = n + 1 := by rw [← hr1, List.length_modify, HN.out]
      have HR1 := Lib.hid hr1
      have HT1 := Lib.hid t1
      have HB5 := Lib.hid hB5
      have HRL := Lib.hid hrl1
      clear q0 q1 q2 q3 hB4 hAT4 t1 t2 hr1 hB5 hrl1
      obtain ⟨p0, p1, p2, p3⟩ := HQ.out W5 HB5.out
      by_cases h110 : f1 = 110
      ·have k110 : (f1 == 110) = true := beq_iff_eq.2 h110
       have hs2 : (⟨s.t ++ [⟨f1, ⟨#[]⟩, f3, 1⟩], r1.modify (mx (lastP flowsB r1) 0).toNat noteR ++ [⟨f1, ⟨#[]⟩, s.t.length, 0, 0, ⟨#[]⟩⟩]⟩ : RSt) = s' := by
        have := HS'.out
        rw [HR1.out] at this
        unfold addNote at this
        rw [if_pos h110] at this
        exact this
       have HS2 := Lib.hid hs2
       clear h110 hs2
       have hrd := HT1.out.reads
       have hlast := stylusref04_last.calls (r1.length + 102) (some ⟨gr, 0, none⟩) cr r1 ⟨#[49, 50, 51, 112, 105]⟩ (lastP flowsB r1) W5 hrd.2.2 (by have := HRL.out; omega) (last_f flowsB (by decide) r1 (by have := HRL.out; omega) (by have := HRL.out; omega) _ (Nat.le_refl _))
       rw [HRL.out] at hlast
       have hjb := lastR_range flowsB r1 n
       have hle : lastP flowsB r1 = lastR flowsB r1 n := by unfold lastP; rw [HRL.out]; rfl
       rw [← hle] at hjb
       obtain ⟨L, hL⟩ : ∃ L, lastP flowsB r1 = L := ⟨_, rfl⟩
       rw [hL] at hlast hjb
       have HS3 := Lib.hid (show (⟨s.t ++ [⟨f1, ⟨#[]⟩, f3, 1⟩], r1.modify (mx L 0).toNat noteR ++ [⟨f1, ⟨#[]⟩, s.t.length, 0, 0, ⟨#[]⟩⟩]⟩ : RSt) = s' by rw [← hL]; exact HS2.out)
       obtain ⟨jn, hjn⟩ : ∃ jn : Nat, mx L 0 = (jn : Int) := ⟨(mx L 0).toNat, by unfold mx; split <;> omega⟩
       have hjl : jn < n + 1 := by
        have : mx L 0 ≤ n := by unfold mx; split <;> omega
        omega
       have HLC := Lib.hid hlast
       have HMX := Lib.hid hjn
       clear hlast hL hle hrd HS2 hjn
       go_wp2_with fail
       refine HLC.out.mono ?_
       rintro _ Wd ⟨rfl, hd⟩
       have hbd := hd.below
       have HT1d := Lib.hid (HT1.out.below hbd)
       have HB5d := Lib.hid (HB5.out.trans (hbd.mono HB5.out.size))
       have hcell := row9_cell HT1d.out.row jn 3 (by show jn < r1.length; have := HRL.out; omega) (by omega)
       obtain ⟨ob, hob⟩ : ∃ ob, r1.getD jn z159 = ob := ⟨_, rfl⟩
       rw [hob] at hcell
       simp only [cells9, List.getElem?_cons_succ, List.getElem?_cons_zero] at hcell
       have hnb3 : 0 ≤ ob.f3 ∧ ob.f3 ≤ 800000 := by
        have hmem : ob ∈ r1 := by
         rw [← hob, List.getD_eq_getElem?_getD, List.getElem?_eq_getElem (by have := HRL.out; omega)]
         exact List.getElem_mem _
        rw [← HR1.out] at hmem
        obtain ⟨y, hy, h | h⟩ := mem_modR hmem
        ·have := HRB.out.ops y hy
         rw [h]
         exact ⟨this.c, by have := this.d; omega⟩
        ·have := HRB.out.ops y hy
         rw [h]
         exact ⟨this.c, by have := this.d; show y.f3 ≤ _; omega⟩
       obtain ⟨t1, t2, t3⟩ := HT1d.out.setR jn 3 (by have := HRL.out; show jn < r1.length; omega) (by omega) noteR (.int .i64 (ob.f3 + 1)) (by show cells9 (noteR (r1.getD jn z159)) = _; rw [hob]; rfl)
       have HT2 := Lib.hid t1
       have HT3 := Lib.hid t2
       clear t1 t2 hd hbd p0 p1 p2 p3
       have hjn : (if L < 0 then (0 : Int) else L) = (jn : Int) := HMX.out
       obtain ⟨Wf, hWf⟩ : ∃ Wf, Wd.setCell ⟨gr, jn * 6 + 3, none⟩ (.int .i64 (ob.f3 + 1)) = Wf := ⟨_, rfl⟩
       have HT2' := Lib.hid (show RAt Wf w.heap.size (.slice (some ⟨gr, 0, none⟩) (n + 1) cr) (.slice At s.t.length ct) ⟨s.t, r1.modify jn noteR⟩ by rw [← hWf]; exact HT2.out)
       have HB2' := Lib.hid (show Below w.heap.size w Wf by rw [← hWf]; exact HB5d.out.trans HT3.out)
       have HS4 := Lib.hid (show (⟨s.t ++ [⟨f1, ⟨#[]⟩, f3, 1⟩], r1.modify jn noteR ++ [⟨f1, ⟨#[]⟩, s.t.length, 0, 0, ⟨#[]⟩⟩]⟩ : RSt) = s' by have := HS3.out; rw [HMX.out, Int.toNat_natCast] at this; exact this)
       have HRL' := Lib.hid (show (r1.modify jn noteR).length = n + 1 by rw [List.length_modify]; exact HRL.out)
       clear HT1 HB5 HRL HS3 HT2 HR1
       obtain ⟨r2, hr2⟩ : ∃ r2, r1.modify jn noteR = r2 := ⟨_, rfl⟩
       rw [hr2] at HT2' HS4 HRL'
       obtain ⟨p0, p1, p2, p3⟩ := HQ.out Wf HB2'.out
       clear hr2
       obtain ⟨i0, hi, hz0, hz1, hz2⟩ := info_parts info159
       have hrow : Wf.ownsRow w.heap.size 159 6 (.slice (some ⟨gr, 0, none⟩) (n + 1) cr) (n + 1) (flatQ r2) := by
        have := HT2'.out.row
        unfold Row9 at this
        rw [HRL'.out] at this
        exact this
       go_wp2_with (at_builtin; refine wpList_append_own_at _ rfl _ _ 105 rfl w.heap.size 159 i0 (.agg #[(.int .u8 0), (.string ⟨#[]⟩), (.int .i64 0), (.int .i64 0), (.int .i64 0), (.string ⟨#[]⟩)]) 6 64 Try.underlying105 hi hz0 hz1 hz2 rfl (by decide) _ _ _ rfl (hrow.alloc _) _ 1 1 (cells9 ⟨f1, ⟨#[]⟩, s.t.length, 0, 0, ⟨#[]⟩⟩) rfl rfl ?e1n ?e2n ?e3n ?e4n ?e5n ?e6n)
       case e1n => exact cells_newT Wf (cells9 ⟨f1, ⟨#[]⟩, s.t.length, 0, 0, ⟨#[]⟩⟩) 159
       case e2n => simp [cells9, Value.oneCell']
       case e3n => unfold maxLen; omega
       case e4n => omega
       case e5n => have := HB2'.out.size; simp; omega
       case e6n =>
        intro v' W6 hown' hgrow _ _
        obtain ⟨A', c', rfl⟩ := own_slice hown'
        have hq6 := RAt.pushR (x := ⟨f1, ⟨#[]⟩, s.t.length, 0, 0, ⟨#[]⟩⟩) HT2'.out hgrow (by show W6.ownsRow w.heap.size 159 6 _ (r2.length + 1) (flatQ r2 ++ cells9 _); rw [HRL'.out]; exact hown')
        have hb6 : Below w.heap.size w W6 := ((HB2'.out.alloc HB2'.out.size _)).grown hgrow (by have := HB2'.out.size; simp; omega) fun k hk => own_base hrow k hk
        have HQ6 := Lib.hid hq6
        have HB6 := Lib.hid hb6
        clear hown' hgrow hq6 hb6 hrow p0 p1 p2 p3
        go_wp2_with fail
        obtain ⟨W7, hW7⟩ : ∃ W7, W6.drew = W7 := ⟨_, rfl⟩
        have HB7 := Lib.hid (show Below w.heap.size w W7 by rw [← hW7]; exact below_drew1 HB6.out)
        have HQ7 := Lib.hid (HQ6.out.below (show Below W6.heap.size W6 W7 by rw [← hW7]; exact below_drew1 (Below.refl _ _)))
        have HW7 := Lib.hid hW7
        clear hW7
        refine Go.Mix.region_mix' (fun b W => W = (bif b then W7.alloc (.cells #[.int .u8 f1, .string ⟨#[]⟩, .int .i64 f3, .int .i64 1] 56) else W7)) 12 13 [] (by kernel_rfl) (by kernel_rfl) (fun _ _ _ _ _ h => h) HW7.out ?_
        refine Go.Mix.seqE_nil ?_
        repeat
         apply Go.Mix.seqM_cons (by rfl) (by rfl)
         focus
          intro b W hS
          have hB : Below w.heap.size w W := by
           rw [hS]
           cases b
           ·exact HB7.out
           ·exact HB7.out.alloc HB7.out.size _
          obtain ⟨p0, p1, p2, p3⟩ := HQ.out W hB
          have HSS := Lib.hid hS
          clear hS hB
          go_wp2
          exact Go.Det.AtEnd.mk HSS.out
        apply Go.Mix.seqM_main (by rfl)
        focus
         intro W hS
         obtain rfl : W = W7 := hS
         go_wp2
         exact Go.Det.AtEnd.mk rfl
        refine Go.Mix.seqM_nil ?_
        intro W8 hW8
        obtain rfl : W8 = W7.alloc (.cells #[.int .u8 f1, .string ⟨#[]⟩, .int .i64 f3, .int .i64 1] 56) := hW8
        simp only [List.drop_succ_cons, List.drop_zero]
        obtain ⟨j0, gi, gz0, gz1, gz2⟩ := info_parts info56
        have hrow7 : W7.ownsRow w.heap.size 56 4 (.slice At s.t.length ct) s.t.length (flat56 s.t) := HQ7.out.t
        go_wp2_with (at_builtin; refine wpList_append_own_at _ rfl _ _ 50 rfl w.heap.size 56 j0 (.agg #[(.int .u8 0), (.string ⟨#[]⟩), (.int .i64 0), (.int .i64 0)]) 4 40 Try.underlying50 gi gz0 gz1 gz2 rfl (by decide) _ _ _ rfl (hrow7.alloc _) _ 1 1 (cells6 ⟨f1, ⟨#[]⟩, f3, 1⟩) rfl rfl ?d1m ?d2m ?d3m ?d4m ?d5m ?d6m)
        case d1m => exact cells_newT W7 (cells6 ⟨f1, ⟨#[]⟩, f3, 1⟩) 56
        case d2m => simp [cells6, Value.oneCell']
        case d3m => unfold maxLen; omega
        case d4m => omega
        case d5m => have := HB7.out.size; simp; omega
        case d6m =>
         intro v8 W9 hown' hgrow _ _
         have hq9 := RAt.pushT (x := ⟨f1, ⟨#[]⟩, f3, 1⟩) HQ7.out hgrow hown'
         have hb9 : Below w.heap.size w W9 := ((HB7.out.alloc HB7.out.size _)).grown hgrow (by have := HB7.out.size; simp; omega) fun k hk => own_base hrow7 k hk
         have HQ9 := Lib.hid hq9
         have HB9 := Lib.hid hb9
         clear hown' hgrow hq9 hb9 hrow7
         go_wp2_with fail
         refine ⟨⟨k + 1, s', by omega, by simp, ?_, HRB2.out, HB9.out, HST.out⟩, by simp only [intOf]; omega⟩
         rw [← HS4.out]
         exact HQ9.out
      ·have k110 : (f1 == 110) = false := beq_eq_false_iff_ne.2 h110
       have hs2 : (⟨s.t ++ [⟨f1, ⟨#[]⟩, f3, 1⟩], r1 ++ [⟨f1, ⟨#[]⟩, s.t.length, 0, 0, ⟨#[]⟩⟩]⟩ : RSt) = s' := by
        have := HS'.out
        rw [HR1.out] at this
        unfold addNote at this
        rw [if_neg h110] at this
        exact this
       have HS2 := Lib.hid hs2
       clear h110 hs2
       obtain ⟨i0, hi, hz0, hz1, hz2⟩ := info_parts info159
       have hrow : W5.ownsRow w.heap.size 159 6 (.slice (some ⟨gr, 0, none⟩) (n + 1) cr) (n + 1) (flatQ r1) := by
        have := HT1.out.row
        unfold Row9 at this
        rw [HRL.out] at this
        exact this
       go_wp2_with (at_builtin; refine wpList_append_own_at _ rfl _ _ 105 rfl w.heap.size 159 i0 (.agg #[(.int .u8 0), (.string ⟨#[]⟩), (.int .i64 0), (.int .i64 0), (.int .i64 0), (.string ⟨#[]⟩)]) 6 64 Try.underlying105 hi hz0 hz1 hz2 rfl (by decide) _ _ _ rfl (hrow.alloc _) _ 1 1 (cells9 ⟨f1, ⟨#[]⟩, s.t.length, 0, 0, ⟨#[]⟩⟩) rfl rfl ?e1a ?e2a ?e3a ?e4a ?e5a ?e6a)
       case e1a => exact cells_newT W5 (cells9 ⟨f1, ⟨#[]⟩, s.t.length, 0, 0, ⟨#[]⟩⟩) 159
       case e2a => simp [cells9, Value.oneCell']
       case e3a => unfold maxLen; omega
       case e4a => omega
       case e5a => have := HB5.out.size; simp; omega
       case e6a =>
        intro v' W6 hown' hgrow _ _
        obtain ⟨A', c', rfl⟩ := own_slice hown'
        have hq6 := RAt.pushR (x := ⟨f1, ⟨#[]⟩, s.t.length, 0, 0, ⟨#[]⟩⟩) HT1.out hgrow (by show W6.ownsRow w.heap.size 159 6 _ (r1.length + 1) (flatQ r1 ++ cells9 _); rw [HRL.out]; exact hown')
        have hb6 : Below w.heap.size w W6 := ((HB5.out.alloc HB5.out.size _)).grown hgrow (by have := HB5.out.size; simp; omega) fun k hk => own_base hrow k hk
        have HQ6 := Lib.hid hq6
        have HB6 := Lib.hid hb6
        clear hown' hgrow hq6 hb6 hrow p0 p1 p2 p3
        go_wp2_with fail
        obtain ⟨W7, hW7⟩ : ∃ W7, W6.drew = W7 := ⟨_, rfl⟩
        have HB7 := Lib.hid (show Below w.heap.size w W7 by rw [← hW7]; exact below_drew1 HB6.out)
        have HQ7 := Lib.hid (HQ6.out.below (show Below W6.heap.size W6 W7 by rw [← hW7]; exact below_drew1 (Below.refl _ _)))
        have HW7 := Lib.hid hW7
        clear hW7
        refine Go.Mix.region_mix' (fun b W => W = (bif b then W7.alloc (.cells #[.int .u8 f1, .string ⟨#[]⟩, .int .i64 f3, .int .i64 1] 56) else W7)) 12 13 [] (by kernel_rfl) (by kernel_rfl) (fun _ _ _ _ _ h => h) HW7.out ?_
        refine Go.Mix.seqE_nil ?_
        repeat
         apply Go.Mix.seqM_cons (by rfl) (by rfl)
         focus
          intro b W hS
          have hB : Below w.heap.size w W := by
           rw [hS]
           cases b
           ·exact HB7.out
           ·exact HB7.out.alloc HB7.out.size _
          obtain ⟨p0, p1, p2, p3⟩ := HQ.out W hB
          have HSS := Lib.hid hS
          clear hS hB
          go_wp2
          exact Go.Det.AtEnd.mk HSS.out
        apply Go.Mix.seqM_main (by rfl)
        focus
         intro W hS
         obtain rfl : W = W7 := hS
         go_wp2
         exact Go.Det.AtEnd.mk rfl
        refine Go.Mix.seqM_nil ?_
        intro W8 hW8
        obtain rfl : W8 = W7.alloc (.cells #[.int .u8 f1, .string ⟨#[]⟩, .int .i64 f3, .int .i64 1] 56) := hW8
        simp only [List.drop_succ_cons, List.drop_zero]
        obtain ⟨j0, gi, gz0, gz1, gz2⟩ := info_parts info56
        have hrow7 : W7.ownsRow w.heap.size 56 4 (.slice At s.t.length ct) s.t.length (flat56 s.t) := HQ7.out.t
        go_wp2_with (at_builtin; refine wpList_append_own_at _ rfl _ _ 50 rfl w.heap.size 56 j0 (.agg #[(.int .u8 0), (.string ⟨#[]⟩), (.int .i64 0), (.int .i64 0)]) 4 40 Try.underlying50 gi gz0 gz1 gz2 rfl (by decide) _ _ _ rfl (hrow7.alloc _) _ 1 1 (cells6 ⟨f1, ⟨#[]⟩, f3, 1⟩) rfl rfl ?d1b ?d2b ?d3b ?d4b ?d5b ?d6b)
        case d1b => exact cells_newT W7 (cells6 ⟨f1, ⟨#[]⟩, f3, 1⟩) 56
        case d2b => simp [cells6, Value.oneCell']
        case d3b => unfold maxLen; omega
        case d4b => omega
        case d5b => have := HB7.out.size; simp; omega
        case d6b =>
         intro v8 W9 hown' hgrow _ _
         have hq9 := RAt.pushT (x := ⟨f1, ⟨#[]⟩, f3, 1⟩) HQ7.out hgrow hown'
         have hb9 : Below w.heap.size w W9 := ((HB7.out.alloc HB7.out.size _)).grown hgrow (by have := HB7.out.size; simp; omega) fun k hk => own_base hrow7 k hk
         have HQ9 := Lib.hid hq9
         have HB9 := Lib.hid hb9
         clear hown' hgrow hq9 hb9 hrow7
         go_wp2_with fail
         refine ⟨⟨k + 1, s', by omega, by simp, ?_, HRB2.out, HB9.out, HST.out⟩, by simp only [intOf]; omega⟩
         rw [← HS2.out]
         exact HQ9.out
     ·have e1 : (f0 == 1) = false := beq_eq_false_iff_ne.2 h1
      have e2 : (f0 == 2) = false := beq_eq_false_iff_ne.2 h2
      have hs := HS.out
      unfold rstep at hs
      rw [if_neg h1, if_neg h2] at hs
      by_cases hc : 2 ≤ s.r.length ∧ 0 ≤ (topR s.r).f2 ∧ (topR s.r).f2 < s.t.length
      ·rw [if_pos hc] at hs
       have hs' := Option.some.inj hs
       obtain ⟨hc2, hc3, hc4⟩ := hc
       obtain ⟨n, hn⟩ : ∃ n, s.r.length = n + 1 := ⟨s.r.length - 1, by omega⟩
       obtain ⟨m, hm⟩ : ∃ m, n = m + 1 := ⟨n - 1, by omega⟩
       have htop : topR s.r = s.r.getD n z159 := by unfold topR rd_T159; rw [hn]; simp
       obtain ⟨p, hp⟩ : ∃ p : Nat, (topR s.r).f2 = (p : Int) := ⟨(topR s.r).f2.toNat, by omega⟩
       have hpl : p < s.t.length := by omega
       obtain ⟨gt, ct', et⟩ := own_form HAT.out.t (by omega)
       simp only [Value.slice.injEq] at et
       obtain ⟨rfl, -, rfl⟩ := et
       rw [hp] at hs'
       have HS' := Lib.hid hs'
       have HTOP := Lib.hid htop
       have HP := Lib.hid hp
       have HAT2 := Lib.hid (show RAt wr w.heap.size (.slice (some ⟨gr, 0, none⟩) (n + 1) cr) (.slice (some ⟨gt, 0, none⟩) s.t.length ct) s from hn ▸ HAT.out)
       have HN := Lib.hid hn
       have HNM := Lib.hid hm
       have hcell := fun W (hW : Below wr.heap.size wr W) => row9_cell (HAT2.out.below hW).row n 2 (by omega) (by omega)
       rw [← htop] at hcell
       simp only [cells9, List.getElem?_cons_succ, List.getElem?_cons_zero, hp] at hcell
       have HC2 := Lib.hid hcell
       have hnb : n ≤ 800000 := by omega
       have htb : s.t.length ≤ 800000 := by omega
       rw [hn]
       clear hs hs' h1 h2 hcell hp htop hc2 hc3 hc4 hn hm
       go_wp2_with fail
       refine Go.Det.region_det (fun W' => Below wr.heap.size wr W') 16 (by kernel_rfl) (by kernel_rfl) (by kernel_rfl) (by decide) (below_drew (Below.refl _ _)) ?_
       repeat (apply Go.Det.seqW_cons; focus (intro W' hS'; replace hS' : Below wr.heap.size wr W' := hS'; have hcc := HC2.out W' hS'; have HS2 := Lib.hid hS'; clear hS'; go_wp2; exact Go.Det.AtEnd.mk HS2.out))
       refine Go.Det.seqW_nil ?_
       intro W' hS'
       replace hS' : Below wr.heap.size wr W' := hS'
       obtain ⟨t1, t2, t3⟩ := (HAT2.out.below hS').setT p 3 hpl (by omega) (sizeF ((s.t.length : Int) - p)) (.int .i64 ((s.t.length : Int) - p)) rfl
       obtain ⟨W6, hW6⟩ : ∃ W6, W'.setCell ⟨gt, p * 4 + 3, none⟩ (.int .i64 ((s.t.length : Int) - p)) = W6 := ⟨_, rfl⟩
       rw [hW6] at t1 t2
       have hB6 : Below w.heap.size w W6 := (HW.out.trans (hS'.mono HW.out.size)).trans t2
       have HT1 := Lib.hid t1
       have HB6 := Lib.hid hB6
       have hz0 := fun i hi => row9_cell t1.row n i (by show n < s.r.length; have := HN.out; omega) hi
       have hz1 := fun i hi => row9_cell t1.row m i (by show m < s.r.length; have := HN.out; have := HNM.out; omega) hi
       obtain ⟨o, ho⟩ : ∃ o, topR s.r = o := ⟨_, rfl⟩
       obtain ⟨u, hu⟩ : ∃ u, s.r.getD m z159 = u := ⟨_, rfl⟩
       have a0 := hz0 0 (by omega)
       have a1 := hz0 1 (by omega)
       have b4 := hz1 4 (by omega)
       simp only [← HTOP.out, ho, hu, cells9, List.getElem?_cons_succ, List.getElem?_cons_zero, Nat.add_zero] at a0 a1 b4
       have hao : addCols s.r = if o.f0 = 114 ∧ u.f4 = 0 then s.r.modify m (colR o.f1.size) else s.r := by
        unfold addCols
        have e1 : s.r.length - 2 = m := by have := HN.out; have := HNM.out; omega
        rw [ho, e1]
        have e2 : rd_T159 s.r (m : Int) = u := by rw [← hu]; unfold rd_T159; rw [Int.toNat_natCast]
        rw [e2]
       have HAO := Lib.hid hao
       have hsz : o.f1.size ≤ 800000 := by
        have hmem : o ∈ s.r := by
         rw [← ho, HTOP.out, List.getD_eq_getElem?_getD, List.getElem?_eq_getElem (by have := HN.out; omega)]
         exact List.getElem_mem _
        have := (HRB.out.ops o hmem).a
        omega
       have hnm : (n : Int) - 1 = (m : Int) := by have := HNM.out; omega
       have HNM2 := Lib.hid hnm
       obtain ⟨o0, o1, o2, o3, o4, o5⟩ := o
       obtain ⟨u0, u1, u2, u3, u4, u5⟩ := u
       simp only at a0 a1 b4 hsz
       have HA0 := Lib.hid a0
       have HA1 := Lib.hid a1
       have HB4 := Lib.hid b4
       have HT3 := Lib.hid t3
       have tc := row6_cell (HAT2.out.below hS').t p 3 hpl (by omega)
       simp only [cells6, List.getElem?_cons_succ, List.getElem?_cons_zero] at tc
       have HTC := Lib.hid tc
       have HWW := Lib.hid hW6
       clear hz0 hz1 ho hu hao t1 t2 hB6 a0 a1 b4 t3 hW6 tc
       simp only [List.drop_succ_cons, List.drop_zero]
       have t3 := HT3.out
       have hW6 := HWW.out
       have tc := HTC.out
       have hcn : n ≤ cr := by
        have := HAT2.out.reads.2.1
        omega
       by_cases k1 : o0 = 114
       ·have k1b : (o0 == 114) = true := beq_iff_eq.2 k1
        by_cases k2 : u4 = 0
        ·have k2b : (u4 == 0) = true := beq_iff_eq.2 k2
         have a0 := HA0.out
         have a1 := HA1.out
         have b4 := HB4.out
         have hnm := HNM2.out
         have hao := HAO.out
         rw [if_pos ⟨k1, k2⟩] at hao
         have HAO2 := Lib.hid hao
         obtain ⟨s1, s2, s3⟩ := HT1.out.setR m 4 (by show m < s.r.length; have := HN.out; have := HNM.out; omega) (by omega) (colR o1.size) (.int .i64 o1.size) rfl
         have HS1 := Lib.hid s1
         have HS2 := Lib.hid s2
         clear k1 k2 hao HAO s1 s2
         go_wp2_with fail
         refine ⟨⟨k + 1, s', by omega, by simp, ?_, HRB2.out, HB6.out.trans HS2.out, HST.out⟩, by simp only [intOf]; omega⟩
         rw [← HS'.out, HAO2.out, Int.toNat_natCast]
         exact HS1.out.dropR
        ·have k2b : (u4 == 0) = false := beq_eq_false_iff_ne.2 k2
         have a0 := HA0.out
         have b4 := HB4.out
         have hnm := HNM2.out
         have hao := HAO.out
         rw [if_neg (fun h => k2 h.2)] at hao
         have HAO2 := Lib.hid hao
         clear k1 k2 hao HAO
         go_wp2_with fail
         refine ⟨⟨k + 1, s', by omega, by simp, ?_, HRB2.out, HB6.out, HST.out⟩, by simp only [intOf]; omega⟩
         rw [← HS'.out, HAO2.out, Int.toNat_natCast]
         exact HT1.out.dropR
       ·have k1b : (o0 == 114) = false := beq_eq_false_iff_ne.2 k1
        have a0 := HA0.out
        have hao := HAO.out
        rw [if_neg (fun h => k1 h.1)] at hao
        have HAO2 := Lib.hid hao
        clear k1 hao HAO
        go_wp2_with fail
        refine ⟨⟨k + 1, s', by omega, by simp, ?_, HRB2.out, HB6.out, HST.out⟩, by simp only [intOf]; omega⟩
        rw [← HS'.out, HAO2.out, Int.toNat_natCast]
        exact HT1.out.dropR
      ·rw [if_neg hc] at hs; cases hs
  ·have hlt1 : ¬ (k : Int) < (l.length : Int) := by omega
   have hk2 : k = l.length := by omega
   have hst := HRUN.out
   rw [hk2, List.drop_length] at hst
   have hst2 : s = R := Option.some.inj hst
   have HST := Lib.hid hst2
   clear hst hst2 hk2 HRUN
   go_wp2_with fail
   go_ret2
   exact ⟨_, _, rfl, by rw [← HST.out]; exact HAT.out, HW.out⟩
theorem stylusref04_Read.calls (A0 : Option Addr) (c0 : Nat) (l0 : List S47) (r1 : List S56) (r2 : List S159) (w : World) (hr0 : Kd.C k47 w A0 l0.length l0) (hc0 : l0.length ≤ c0) (h : stylusref04_Read.f l0 = some (r1, r2)) :
  Calls Try.prog 95 #[.slice A0 l0.length c0] w fun e w' => ∃ v0_ v1_ : Value, e = .returned (.tuple #[v0_, v1_]) ∧ Kd.R k56 56 w' w.heap.size (fun _ => True) v0_ r1 ∧ Kd.R k159 159 w' w.heap.size (fun _ => True) v1_ r2 ∧ Below w.heap.size w w' := by
 unfold stylusref04_Read.f at h
 by_cases hc : l0.length ≤ 800000 ∧ (l0.all fun x => decide (x.f2.size ≤ 1000000) && decide (0 ≤ x.f1) && decide (x.f1 ≤ 255)) = true
 ·rw [if_pos hc] at h
  obtain ⟨R, hR, he⟩ := Option.map_eq_some_iff.1 h
  simp only [Prod.mk.injEq] at he
  obtain ⟨rfl, rfl⟩ := he
  refine (read_calls A0 c0 l0 R w hc.1 (fun x hx => ?_) hr0 hc0 hR).mono ?_
  ·have := List.all_eq_true.1 hc.2 x hx
   simp only [Bool.and_eq_true, decide_eq_true_eq] at this
   exact ⟨this.1.1, this.1.2, this.2⟩
  ·rintro e w' ⟨v0, v1, rfl, hat, hb⟩
   exact ⟨v0, v1, rfl, own_R56 hat.t _ (Nat.le_refl _), own_R159 hat.row _ (Nat.le_refl _), hb⟩
 ·rw [if_neg hc] at h; cases h
end Go.Proofs.Ythcmfjpheanphaa.Pr
namespace Go.Proofs.Ythcmfjpheanphaa.Pr
open Go.RowKit Go.Proofs.Ythcmfjpheanphaa.Pure Go.Proofs.YthcmfjpheanphaaW.PrintWords
def kindL : List Int := [49, 50, 51, 112, 108, 105, 116, 114, 99, 107, 110, 101, 115]
def tenM : Nat := 1000000
structure OpR (n T : Nat) (o : Opn) (x : S159) : Prop where
 kind : x.f0 = o.kind
 mem : o.kind ∈ kindL
 pos : x.f2 = o.pos
 pin : 0 ≤ o.pos ∧ o.pos < (T : Int)
 kids : o.kids = (x.f1.size : Int)
 kle : x.f1.size ≤ n
 note : x.f3 = o.note
 nle : 0 ≤ o.note ∧ o.note ≤ (n : Int)
 past : o.past = inB 108 x.f1
 cols : x.f4 = o.cols
 cle : 0 ≤ o.cols
 text : o.text = (x.f5.size : Int)
 tle : x.f5.size ≤ n * tenM
theorem OpR.up {n m T U : Nat} {o : Opn} {x : S159} (h : OpR n T o x) (hn : n ≤ m) (ht : T ≤ U) : OpR m U o x :=
 ⟨h.kind, h.mem, h.pos, ⟨h.pin.1, by have := h.pin.2; omega⟩, h.kids, Nat.le_trans h.kle hn, h.note, ⟨h.nle.1, by have := h.nle.2; omega⟩, h.past, h.cols, h.cle, h.text, Nat.le_trans h.tle (Nat.mul_le_mul_right _ hn)⟩
structure Rel (n : Nat) (s : Bld) (u : RSt) : Prop where
 t : u.t = s.t
 len : u.r.length = s.row.length + 1
 root : (u.r.getD 0 z159).f0 = 0
 op : ∀ i, i < s.row.length → OpR n s.t.length (s.row.getD i zOpn) (u.r.getD (i + 1) z159)
 chain : RChain s.row
theorem getD_mod {α : Type} (l : List α) (f : α → α) (z : α) : ∀ (j i : Nat), (l.modify j f).getD i z = if i = j ∧ i < l.length then f (l.getD i z) else l.getD i z := by
 intro j i
 simp only [List.getD_eq_getElem?_getD, List.getElem?_modify]
 by_cases h : i < l.length
 ·rw [List.getElem?_eq_getElem h]
  by_cases e : i = j
  ·subst e; simp [h]
  ·rw [if_neg (by omega)]; simp [Ne.symm e]
 ·rw [List.getElem?_eq_none (by omega), if_neg (by omega)]; split <;> rfl
theorem getD_snoc {α : Type} (l : List α) (x z : α) (i : Nat) : (l ++ [x]).getD i z = if i < l.length then l.getD i z else if i = l.length then x else z := by
 simp only [List.getD_eq_getElem?_getD]
 by_cases h : i < l.length
 ·rw [if_pos h, List.getElem?_append_left h]
 ·rw [if_neg h, List.getElem?_append_right (by omega)]
  by_cases e : i = l.length
  ·subst e; simp
  ·rw [if_neg e, List.getElem?_eq_none (by simp; omega)]; rfl
theorem getD_init {α : Type} (l : List α) (z : α) (i : Nat) (h : i + 1 < l.length) : l.dropLast.getD i z = l.getD i z := by
 simp only [List.getD_eq_getElem?_getD, List.getElem?_dropLast]
 rw [if_pos (by omega)]
theorem topP_at (r : List Opn) (h : r ≠ []) : topP r = r.getD (r.length - 1) zOpn := by
 unfold topP
 rw [List.getLast?_eq_getElem?, List.getD_eq_getElem?_getD]
theorem rd_at (r : List S159) (i : Nat) : rd_T159 r (i : Int) = r.getD i z159 := by
 unfold rd_T159
 rw [Int.toNat_natCast]
theorem Rel.top {n : Nat} {s : Bld} {u : RSt} (h : Rel n s u) (hr : s.row ≠ []) : OpR n s.t.length (topP s.row) (topR u.r) := by
 have hl : 0 < s.row.length := List.length_pos_iff.mpr hr
 unfold topR
 rw [topP_at _ hr, rd_at, h.len, Nat.add_sub_cancel]
 have := h.op (s.row.length - 1) (by omega)
 rwa [show s.row.length - 1 + 1 = s.row.length from by omega] at this
theorem Rel.top0 {n : Nat} {s : Bld} {u : RSt} (h : Rel n s u) (hr : s.row = []) : (topR u.r).f0 = 0 := by
 unfold topR
 rw [rd_at, h.len, hr]
 exact h.root
theorem Rel.mod {n m : Nat} {s : Bld} {u : RSt} (h : Rel n s u) (hm : n ≤ m) (j : Nat) (f : Opn → Opn) (g : S159 → S159) (hf : ∀ o, (f o).kind = o.kind)
  (hs : ∀ o x, o = s.row.getD j zOpn → OpR n s.t.length o x → OpR m s.t.length (f o) (g x)) : Rel m ⟨s.row.modify j f, s.t⟩ ⟨u.t, u.r.modify (j + 1) g⟩ := by
 refine ⟨h.t, by simp [h.len], ?_, fun i hi => ?_, chain_congr (kinds_modify s.row f hf j) h.chain⟩
 ·show ((u.r.modify (j + 1) g).getD 0 z159).f0 = 0
  rw [getD_mod, if_neg (by omega)]
  exact h.root
 ·have hi' : i < s.row.length := by simpa using hi
  show OpR m s.t.length ((s.row.modify j f).getD i zOpn) ((u.r.modify (j + 1) g).getD (i + 1) z159)
  rw [getD_mod, getD_mod, h.len]
  have hop := h.op i hi'
  by_cases e : i = j
  ·rw [if_pos ⟨e, hi'⟩, if_pos ⟨by omega, by omega⟩]
   exact hs _ _ (by rw [e]) hop
  ·rw [if_neg (by omega), if_neg (by omega)]
   exact hop.up hm (Nat.le_refl _)
theorem Rel.up {n m : Nat} {s : Bld} {u : RSt} (h : Rel n s u) (hm : n ≤ m) : Rel m s u :=
 ⟨h.t, h.len, h.root, fun i hi => (h.op i hi).up hm (Nat.le_refl _), h.chain⟩
theorem Rel.node {n : Nat} {s : Bld} {u : RSt} (h : Rel n s u) (x : S56) : Rel n ⟨s.row, s.t ++ [x]⟩ ⟨u.t ++ [x], u.r⟩ :=
 ⟨by show _ ++ _ = _ ++ _; rw [h.t], h.len, h.root, fun i hi => (h.op i hi).up (Nat.le_refl _) (by show _ ≤ (s.t ++ [x]).length; simp), h.chain⟩
theorem Rel.push {n : Nat} {s : Bld} {u : RSt} (h : Rel n s u) {o : Opn} {x : S159} (ho : OpR n s.t.length o x) (hc : RChain (s.row ++ [o])) : Rel n ⟨s.row ++ [o], s.t⟩ ⟨u.t, u.r ++ [x]⟩ := by
 refine ⟨h.t, by simp [h.len], ?_, fun i hi => ?_, hc⟩
 ·show ((u.r ++ [x]).getD 0 z159).f0 = 0
  rw [getD_snoc, if_pos (by have := h.len; omega)]
  exact h.root
 ·have hi' : i < s.row.length + 1 := by have := hi; simpa using this
  clear hi
  show OpR n s.t.length ((s.row ++ [o]).getD i zOpn) ((u.r ++ [x]).getD (i + 1) z159)
  rw [getD_snoc, getD_snoc, h.len]
  by_cases e : i < s.row.length
  ·rw [if_pos e, if_pos (by omega)]
   exact h.op i e
  ·rw [if_neg e, if_pos (by omega), if_neg (by omega), if_pos (by omega)]
   exact ho
theorem Rel.drop {n : Nat} {s : Bld} {u : RSt} (h : Rel n s u) (hr : s.row ≠ []) : Rel n ⟨s.row.dropLast, s.t⟩ ⟨u.t, u.r.dropLast⟩ := by
 have hl : 0 < s.row.length := List.length_pos_iff.mpr hr
 refine ⟨h.t, by simp only [List.length_dropLast, h.len]; omega, ?_, fun i hi => ?_, chain_drop h.chain⟩
 ·show (u.r.dropLast.getD 0 z159).f0 = 0
  rw [getD_init _ _ _ (by have := h.len; omega)]
  exact h.root
 ·have hi' : i < s.row.length - 1 := by simpa using hi
  show OpR n s.t.length (s.row.dropLast.getD i zOpn) (u.r.dropLast.getD (i + 1) z159)
  rw [getD_init _ _ _ (by omega), getD_init _ _ _ (by have := h.len; omega)]
  exact h.op i (by omega)
theorem Rel.size {n : Nat} {s : Bld} {u : RSt} (h : Rel n s u) (j : Nat) (f : S56 → S56) : Rel n ⟨s.row, s.t.modify j f⟩ ⟨u.t.modify j f, u.r⟩ :=
 ⟨by show _ = _; rw [h.t], h.len, h.root, fun i hi => by show OpR n (s.t.modify j f).length _ _; rw [List.length_modify]; exact h.op i hi, h.chain⟩
theorem inFrom_any (b : Int) (s : ByteArray) : ∀ d i, inFrom b s d i = ((List.range' i d).any fun j => decide (j < s.size) && decide (bt s (j : Int) = b) )
 | 0, i => rfl
 | d + 1, i => by
  simp only [inFrom, List.range'_succ, List.any_cons]
  rw [← inFrom_any b s d (i + 1)]
  by_cases h : i < s.size
  ·by_cases hb : bt s (i : Int) = b
   ·simp [h, hb]
   ·simp [h, hb]
  ·simp only [h, if_false, decide_false, Bool.false_and, Bool.false_or]
   cases d with
   | zero => rfl
   | succ d => simp only [inFrom]; rw [if_neg (by omega)]
theorem inB_list (s : ByteArray) (l : List Int) (e : (List.range' 0 s.size).map (fun j : Nat => bt s (j : Int)) = l) (c : Int) : inB c s = l.contains c := by
 unfold inB
 rw [inFrom_any]
 have : ∀ j ∈ List.range' 0 s.size, j < s.size := fun j hj => by simp at hj; omega
 rw [← e, Bool.eq_iff_iff, List.any_eq_true, List.contains_iff_mem, List.mem_map]
 constructor
 ·rintro ⟨j, h1, h2⟩
  simp at h2
  exact ⟨j, h1, h2.2⟩
 ·rintro ⟨j, h1, h2⟩
  exact ⟨j, h1, by simp [h2, this j h1]⟩
theorem inB_flows (c : Int) : inB c flowsB = flowK.contains c := inB_list flowsB flowK (by decide +kernel) c
theorem inB_n (c : Int) : inB c nB = [(110 : Int)].contains c := inB_list nB _ (by decide +kernel) c
theorem Rel.last {n : Nat} {s : Bld} {u : RSt} (h : Rel n s u) (ks : ByteArray) (kl : List Int) (hk : ∀ c, inB c ks = kl.contains c) : ∀ m, m ≤ s.row.length →
  lastR ks u.r m = (match aroundP kl s.row m with | some j => ((j + 1 : Nat) : Int) | none => -1)
 | 0, _ => rfl
 | m + 1, hm => by
  simp only [lastR, aroundP]
  rw [rd_at, (h.op m (by omega)).kind, hk]
  by_cases hc : kl.contains (s.row.getD m zOpn).kind = true
  ·rw [if_pos hc, if_pos hc]
  ·rw [if_neg hc, if_neg hc]
   exact h.last ks kl hk m (by omega)
theorem Rel.lastP {n : Nat} {s : Bld} {u : RSt} (h : Rel n s u) (ks : ByteArray) (kl : List Int) (hk : ∀ c, inB c ks = kl.contains c) :
  Pr.lastP ks u.r = (match aroundP kl s.row s.row.length with | some j => ((j + 1 : Nat) : Int) | none => -1) := by
 unfold Pr.lastP
 rw [h.len, Nat.add_sub_cancel]
 exact h.last ks kl hk _ (Nat.le_refl _)
theorem around_lt (kl : List Int) (r : List Opn) : ∀ n j, aroundP kl r n = some j → j < n ∧ kl.contains (r.getD j zOpn).kind = true
 | 0, j, h => by simp [aroundP] at h
 | n + 1, j, h => by
  simp only [aroundP] at h
  by_cases hc : kl.contains (r.getD n zOpn).kind = true
  ·rw [if_pos hc] at h
   obtain rfl := Option.some.inj h
   exact ⟨by omega, hc⟩
  ·rw [if_neg hc] at h
   have := around_lt kl r n j h
   exact ⟨by omega, this.2⟩
theorem Rel.manyR {n : Nat} {s : Bld} {u : RSt} (h : Rel n s u) (b : Int) : ∀ d i, d + i = s.row.length → Pr.manyR b u.r d (i + 1) = ((s.row.drop i).filter (·.kind == b)).length
 | 0, i, e => by
  rw [List.drop_eq_nil_of_le (by omega)]
  rfl
 | d + 1, i, e => by
  have hi : i < s.row.length := by omega
  have hg : s.row[i] = s.row.getD i zOpn := by rw [List.getD_eq_getElem?_getD, List.getElem?_eq_getElem hi]; rfl
  simp only [Pr.manyR]
  rw [h.manyR b d (i + 1) (by omega), rd_at, (h.op i hi).kind, List.drop_eq_getElem_cons hi, List.filter_cons, hg]
  by_cases hc : (s.row.getD i zOpn).kind = b
  ·rw [if_pos hc, if_pos (by simpa using hc), List.length_cons]
   omega
  ·rw [if_neg hc, if_neg (by simpa using hc)]
   omega
theorem Rel.many {n : Nat} {s : Bld} {u : RSt} (h : Rel n s u) (b : Int) : manyP b u.r = hasP b s.row := by
 unfold manyP hasP
 rw [h.len, Nat.add_sub_cancel]
 exact h.manyR b s.row.length 0 (by omega)
theorem may46_fin : ∀ c ∈ kindL, ∀ p : Bool, (if inB c flowB = true then true else if c = 105 then !p else false) = (if (!okP c 46 || (c == 105 && p && (46 : Int) != 108)) = true then false else true) := by decide +kernel
theorem may46 (r : List Opn) : mayP r 46 = (if (!okP (topP r).kind 46 || ((topP r).kind == 105 && (topP r).past && (46 : Int) != 108)) = true then false else true) := by
 unfold mayP
 rfl
theorem Rel.texts {n : Nat} {s : Bld} {u : RSt} (h : Rel n s u) : textsR u.r = mayP s.row 46 := by
 unfold textsR
 rw [may46]
 by_cases hr : s.row = []
 ·rw [h.top0 hr, hr]
  generalize inB 108 _ = b
  revert b
  decide
 ·have ho := h.top hr
  rw [ho.kind, ← ho.past]
  exact may46_fin _ ho.mem _
theorem open0_fin : ∀ c ∈ kindL, inB c topB = mayP [] c := by decide +kernel
theorem mayE_fin : ∀ c ∈ kindL, ∀ p : Bool, ∀ k ∈ [(101 : Int), 115, 110], (!okP c k || (c == 105 && p && k != 108)) = !(if inB c flowB = true then true else if c = 105 then !p else false) := by decide +kernel
theorem okO_fin : ∀ c ∈ kindL, ∀ k ∈ [(49 : Int), 50, 51, 112, 108, 105, 116, 114, 99, 107], ∀ p : Bool, (!okP c k || (c == 105 && p && k != 108)) = !(decide ((c = 105 ∧ k = 108) ∨ (c = 108 ∧ k = 105) ∨ (c = 116 ∧ k = 114) ∨ (c = 114 ∧ k = 99))) := by decide +kernel
theorem okP_kind {a b : Int} (h : okP a b = true) (hb : b ≠ 46) : b ∈ kindL := by
 unfold okP at h
 simp only [Bool.or_eq_true, Bool.and_eq_true, beq_iff_eq, List.contains_iff_mem, List.mem_cons, List.not_mem_nil, or_false] at h
 simp only [kindL, List.mem_cons, List.not_mem_nil, or_false]
 omega
theorem inB_top (c : Int) : inB c topB = [(49 : Int), 50, 51, 112, 108, 116, 107].contains c := inB_list topB _ (by decide +kernel) c
theorem inB_esn (c : Int) : inB c esnB = [(101 : Int), 115, 110].contains c := inB_list esnB _ (by decide +kernel) c
theorem inB_ltr (c : Int) : inB c ltrB = [(108 : Int), 116, 114].contains c := inB_list ltrB _ (by decide +kernel) c
theorem Rel.one {n : Nat} {s : Bld} {u : RSt} (h : Rel n s u) : u.r.length = 1 ↔ s.row = [] := by
 rw [h.len, ← List.length_eq_zero_iff]
 omega
theorem may_root (c : Int) (hc : c ≠ 46) : mayP [] c = inB c topB := by
 rw [inB_top]
 unfold mayP
 have e : topP [] = zOpn := rfl
 rw [e]
 by_cases h : c ∈ kindL
 ·have := open0_fin c h
  rw [inB_top] at this
  rw [this]; unfold mayP; rw [e]
 ·have h1 : okP zOpn.kind c = false := by
   cases hk : okP zOpn.kind c with
   | false => rfl
   | true => exact absurd (okP_kind hk hc) h
  rw [h1]
  have : [(49 : Int), 50, 51, 112, 108, 116, 107].contains c = false := by
   rw [← Bool.not_eq_true, List.contains_iff_mem]
   intro hm
   apply h
   simp only [kindL, List.mem_cons, List.not_mem_nil, or_false] at hm ⊢
   omega
  rw [this]
  rfl
theorem Rel.opens {n : Nat} {s : Bld} {u : RSt} (h : Rel n s u) (c : Int) (hc : c ≠ 46) : opensR u.r c = mayP s.row c := by
 unfold opensR
 by_cases hr : s.row = []
 ·rw [if_pos (h.one.mpr hr), hr, may_root c hc]
 ·rw [if_neg (fun e => hr (h.one.mp e))]
  have ho := h.top hr
  rw [ho.kind]
  unfold opens0
  rw [h.texts, may46, inB_esn, h.many, ho.kind]
  have hkids : (topP s.row).kids = ((topR u.r).f1.size : Int) := ho.kids
  have hk := ho.mem
  by_cases he : c ∈ [(101 : Int), 115, 110]
  ·have h1 := mayE_fin _ hk (topP s.row).past c he
   have h2 := may46_fin _ hk (topP s.row).past
   have hco : [(101 : Int), 115, 110].contains c = true := by rw [List.contains_iff_mem]; exact he
   rw [hco, if_pos rfl]
   have hpair : ¬ (((topP s.row).kind = 105 ∧ c = 108) ∨ ((topP s.row).kind = 108 ∧ c = 105) ∨ ((topP s.row).kind = 116 ∧ c = 114)) := by
    simp only [List.mem_cons, List.not_mem_nil, or_false] at he
    omega
   rw [if_neg hpair]
   unfold mayP
   rw [h1, ← h2]
   have h3 : c = 99 → False := by
    simp only [List.mem_cons, List.not_mem_nil, or_false] at he
    omega
   by_cases ht : (topP s.row).kind = 114
   ·rw [if_pos ht, if_neg h3, ht]
    rfl
   ·rw [if_neg ht]
    by_cases hx : (if inB (topP s.row).kind flowB = true then true else if (topP s.row).kind = 105 then !(topP s.row).past else false) = true
    ·rw [hx]
     simp only [Bool.not_true, Bool.false_eq_true, if_false, if_true]
     unfold opens1
     rw [h.lastP flowsB flowK inB_flows, h.many]
     by_cases e1 : c = 101 ∨ c = 115
     ·have : (c == 101 || c == 115) = true := by simpa using e1
      rw [if_pos this, if_neg (show ¬ c = 110 by omega)]
      by_cases h0 : 0 < hasP c s.row
      ·rw [if_pos h0]; simp; omega
      ·rw [if_neg h0]; simp; omega
     ·have : ¬ (c == 101 || c == 115) = true := by simpa using e1
      have e2 : c = 110 := by simp only [List.mem_cons, List.not_mem_nil, or_false] at he; omega
      subst e2
      rw [if_neg this, if_pos rfl, show ((110 : Int) == 99) = false from rfl, show ((110 : Int) == 110) = true from rfl, if_neg (show ¬ (false = true) by decide), if_pos (rfl : true = true)]
      by_cases h0 : 0 < hasP 110 s.row
      ·rw [if_pos h0]
       have : (hasP 110 s.row == 0) = false := by simp; omega
       rw [this]; rfl
      ·rw [if_neg h0]
       have : (hasP 110 s.row == 0) = true := by simp; omega
       rw [this, Bool.true_and]
       by_cases h9 : hasP 99 s.row = 0
       ·rw [if_pos h9, h9]
        cases ha : aroundP flowK s.row s.row.length with
        | none => rfl
        | some j =>
         have hj := (around_lt _ _ _ _ ha).1
         show (if (0 : Int) < ((j + 1 : Nat) : Int) then ((rd_T159 u.r ((j + 1 : Nat) : Int)).f3 == 0) else false) = ((0 == 0) && ((s.row.getD j zOpn).note == 0))
         rw [if_pos (by omega), rd_at, (h.op j hj).note]
         rfl
       ·rw [if_neg h9]
        have : (hasP 99 s.row == 0) = false := by simpa using h9
        rw [this]; rfl
    ·have hx' := Bool.eq_false_iff.mpr hx
     rw [hx']
     simp
  ·have hco : [(101 : Int), 115, 110].contains c = false := by rw [← Bool.not_eq_true, List.contains_iff_mem]; exact he
   rw [hco]
   unfold mayP
   by_cases hm : c ∈ kindL
   ·have hm' : c ∈ [(49 : Int), 50, 51, 112, 108, 105, 116, 114, 99, 107] := by
     simp only [kindL, List.mem_cons, List.not_mem_nil, or_false] at hm he ⊢
     omega
    rw [okO_fin _ hk c hm' (topP s.row).past]
    have n1 : (c == 101 || c == 115) = false := by simp only [List.mem_cons, List.not_mem_nil, or_false] at he; simp; omega
    have n2 : (c == 110) = false := by simp only [List.mem_cons, List.not_mem_nil, or_false] at he; simp; omega
    rw [n1, n2]
    by_cases hp : ((topP s.row).kind = 105 ∧ c = 108) ∨ ((topP s.row).kind = 108 ∧ c = 105) ∨ ((topP s.row).kind = 116 ∧ c = 114)
    ·rw [if_pos hp]
     have : decide (((topP s.row).kind = 105 ∧ c = 108) ∨ ((topP s.row).kind = 108 ∧ c = 105) ∨ ((topP s.row).kind = 116 ∧ c = 114) ∨ ((topP s.row).kind = 114 ∧ c = 99)) = true := decide_eq_true (by omega)
     rw [this]
     have n3 : (c == 99) = false := by simp; omega
     rw [n3]
     rfl
    ·rw [if_neg hp]
     by_cases hq : (topP s.row).kind = 114 ∧ c = 99
     ·have : decide (((topP s.row).kind = 105 ∧ c = 108) ∨ ((topP s.row).kind = 108 ∧ c = 105) ∨ ((topP s.row).kind = 116 ∧ c = 114) ∨ ((topP s.row).kind = 114 ∧ c = 99)) = true := decide_eq_true (by omega)
      rw [this, if_pos hq.1, if_pos hq.2, hq.2, hkids]
      simp
      omega
     ·have : decide (((topP s.row).kind = 105 ∧ c = 108) ∨ ((topP s.row).kind = 108 ∧ c = 105) ∨ ((topP s.row).kind = 116 ∧ c = 114) ∨ ((topP s.row).kind = 114 ∧ c = 99)) = false := decide_eq_false (by omega)
      rw [this]
      simp only [Bool.not_false, if_true, Bool.false_eq_true, if_false]
      by_cases h1 : (topP s.row).kind = 114
      ·rw [if_pos h1, if_neg (fun e => hq ⟨h1, e⟩)]
      ·rw [if_neg h1]
       split <;> rfl
   ·have h1 : okP (topP s.row).kind c = false := by
     cases hq : okP (topP s.row).kind c with
     | false => rfl
     | true => exact absurd (okP_kind hq hc) hm
    have hp : ¬ (((topP s.row).kind = 105 ∧ c = 108) ∨ ((topP s.row).kind = 108 ∧ c = 105) ∨ ((topP s.row).kind = 116 ∧ c = 114)) := by
     simp only [kindL, List.mem_cons, List.not_mem_nil, or_false] at hm
     omega
    have h9 : c ≠ 99 := by
     simp only [kindL, List.mem_cons, List.not_mem_nil, or_false] at hm
     omega
    rw [h1, if_neg hp, if_neg h9]
    simp
theorem inB_iff (c : Int) (s : ByteArray) : inB c s = true ↔ ∃ j, j < s.size ∧ bt s (j : Int) = c := by
 unfold inB
 rw [inFrom_any, List.any_eq_true]
 constructor
 ·rintro ⟨j, h1, h2⟩
  simp at h2
  exact ⟨j, h2⟩
 ·rintro ⟨j, h1, h2⟩
  exact ⟨j, by simp; omega, by simp [h1, h2]⟩
theorem inB_app (c : Int) (a b : ByteArray) : inB c (a ++ b) = (inB c a || inB c b) := by
 rw [Bool.eq_iff_iff, Bool.or_eq_true, inB_iff, inB_iff, inB_iff, ByteArray.size_append]
 constructor
 ·rintro ⟨j, h1, h2⟩
  by_cases hj : j < a.size
  ·exact .inl ⟨j, hj, by rw [← bt_app_left a b j hj]; exact h2⟩
  ·refine .inr ⟨j - a.size, by omega, ?_⟩
   rw [← bt_app_right a b (j - a.size) (by omega), ← h2]
   congr 2
   omega
 ·rintro (⟨j, h1, h2⟩ | ⟨j, h1, h2⟩)
  ·exact ⟨j, by omega, by rw [bt_app_left a b j h1]; exact h2⟩
  ·exact ⟨a.size + j, by omega, by rw [bt_app_right a b j h1]; exact h2⟩
theorem inB_byte (c k : Int) (h0 : 0 ≤ k) (h1 : k ≤ 255) : inB c (byteB k) = decide (k = c) := by
 have hb : bt (byteB k) ((0 : Nat) : Int) = k := by
  obtain ⟨n, rfl⟩ : ∃ n : Nat, k = n := ⟨k.toNat, by omega⟩
  show (((Int.toNat (n : Int)).toUInt8.toNat : Nat) : Int) = (n : Int)
  rw [Int.toNat_natCast]
  have : (n.toUInt8).toNat = n % 256 := by simp
  rw [this, Nat.mod_eq_of_lt (by omega)]
 rw [Bool.eq_iff_iff, inB_iff, decide_eq_true_eq]
 constructor
 ·rintro ⟨j, h1, h2⟩
  obtain rfl : j = 0 := by
   have : j < 1 := h1
   omega
  rw [← hb]; exact h2
 ·rintro rfl
  exact ⟨0, by show 0 < 1; omega, hb⟩
theorem inB_dot : inB 108 dotB = false := by decide +kernel
theorem Rel.rootmod {n : Nat} {s : Bld} {u : RSt} (h : Rel n s u) (g : S159 → S159) (hg : ∀ x, (g x).f0 = x.f0) : Rel n s ⟨u.t, u.r.modify 0 g⟩ := by
 refine ⟨h.t, by show (u.r.modify 0 g).length = _; rw [List.length_modify]; exact h.len, ?_, fun i hi => ?_, h.chain⟩
 ·show ((u.r.modify 0 g).getD 0 z159).f0 = 0
  rw [getD_mod]
  split
  ·rw [hg]; exact h.root
  ·exact h.root
 ·show OpR n s.t.length (s.row.getD i zOpn) ((u.r.modify 0 g).getD (i + 1) z159)
  rw [getD_mod, if_neg (by omega)]
  exact h.op i hi
theorem OpR.kid {n T : Nat} {o : Opn} {x : S159} (h : OpR n T o x) (hn : n ≤ 8000000) (b : ByteArray) (hb : b.size = 1) (p : Bool) (hp : p = (o.past || inB 108 b)) : OpR (n + 1) T (kidF { o with past := p }) (kidR b x) := by
 have hk := h.kle
 refine ⟨h.kind, h.mem, h.pos, h.pin, ?_, ?_, h.note, ⟨h.nle.1, by have := h.nle.2; show o.note ≤ _; omega⟩, ?_, h.cols, h.cle, h.text, Nat.le_trans h.tle (Nat.mul_le_mul_right _ (by omega))⟩
 ·show wrap64 (o.kids + 1) = ((x.f1 ++ b).size : Int)
  rw [h.kids, ByteArray.size_append, hb, IntWalk.wrap64_in _ ⟨by omega, by omega⟩]
  omega
 ·show (x.f1 ++ b).size ≤ n + 1
  rw [ByteArray.size_append, hb]
  omega
 ·show p = inB 108 (x.f1 ++ b)
  rw [hp, inB_app, h.past]
theorem OpR.note1 {n T : Nat} {o : Opn} {x : S159} (h : OpR n T o x) (hn : n ≤ 8000000) : OpR (n + 1) T (noteF o) (noteR x) := by
 have h1 := h.nle
 refine ⟨h.kind, h.mem, h.pos, h.pin, h.kids, by have := h.kle; show x.f1.size ≤ n + 1; omega, ?_, ?_, h.past, h.cols, h.cle, h.text, Nat.le_trans h.tle (Nat.mul_le_mul_right _ (by omega))⟩
 ·show x.f3 + 1 = wrap64 (o.note + 1)
  rw [h.note, IntWalk.wrap64_in _ ⟨by omega, by omega⟩]
 ·show 0 ≤ wrap64 (o.note + 1) ∧ wrap64 (o.note + 1) ≤ ((n + 1 : Nat) : Int)
  rw [IntWalk.wrap64_in _ ⟨by omega, by omega⟩]
  omega
theorem OpR.txt {n T : Nat} {o : Opn} {x : S159} (h : OpR n T o x) (hn : n ≤ 8000000) (b : ByteArray) (hb : b.size ≤ 1000000) : OpR (n + 1) T (textF b.size o) (textR b x) := by
 have ht := h.tle
 unfold tenM at ht
 refine ⟨h.kind, h.mem, h.pos, h.pin, h.kids, by have := h.kle; show x.f1.size ≤ n + 1; omega, h.note, ⟨h.nle.1, by have := h.nle.2; show o.note ≤ _; omega⟩, h.past, h.cols, h.cle, ?_, ?_⟩
 ·show wrap64 (o.text + b.size) = ((x.f5 ++ b).size : Int)
  rw [h.text, ByteArray.size_append, IntWalk.wrap64_in _ ⟨by omega, by omega⟩]
  omega
 ·show (x.f5 ++ b).size ≤ (n + 1) * tenM
  unfold tenM
  rw [ByteArray.size_append]
  omega
theorem OpR.col {n T : Nat} {o : Opn} {x : S159} (h : OpR n T o x) (c : Nat) : OpR n T (colsF c o) (colR c x) :=
 ⟨h.kind, h.mem, h.pos, h.pin, h.kids, h.kle, h.note, h.nle, h.past, rfl, by show (0 : Int) ≤ (c : Int); omega, h.text, h.tle⟩
theorem mod_comm {α : Type} (l : List α) (f g : α → α) (hfg : ∀ a, f (g a) = g (f a)) (i j : Nat) : (l.modify i f).modify j g = (l.modify j g).modify i f := by
 refine List.ext_getElem? fun k => ?_
 simp only [List.getElem?_modify]
 cases l[k]? with
 | none => simp
 | some a =>
  by_cases h1 : i = k <;> by_cases h2 : j = k <;> simp [h1, h2, hfg]
theorem init_mod {α : Type} (l : List α) (g : α → α) (i : Nat) : (l.modify i g).dropLast = l.dropLast.modify i g := by
 refine List.ext_getElem? fun k => ?_
 simp only [List.getElem?_modify, List.getElem?_dropLast, List.length_modify]
 split <;> simp
theorem mod_two {α : Type} (l : List α) (f g : α → α) (i : Nat) : (l.modify i f).modify i g = l.modify i (fun a => g (f a)) := by
 refine List.ext_getElem? fun k => ?_
 simp only [List.getElem?_modify]
 cases l[k]? with
 | none => simp
 | some a => by_cases h1 : i = k <;> simp [h1]
theorem row_ne {r : List Opn} (h : mayP r 46 = true) : r ≠ [] := by
 rintro rfl
 revert h
 decide
theorem aroundP_mod (ks : List Int) (f : Opn → Opn) (hf : ∀ o, (f o).kind = o.kind) (r : List Opn) (j : Nat) : ∀ n, aroundP ks (r.modify j f) n = aroundP ks r n
 | 0 => rfl
 | n + 1 => by
  simp only [aroundP]
  rw [aroundP_mod ks f hf r j n]
  have : ((r.modify j f).getD n zOpn).kind = (r.getD n zOpn).kind := by
   rw [getD_mod]
   split
   ·exact hf _
   ·rfl
  rw [this]
def LexF (x : S47) : Prop := (x.f0 = 1 ∨ x.f0 = 2 ∨ x.f0 = 3) ∧ 0 ≤ x.f1 ∧ x.f1 ≤ 255 ∧ x.f2.size ≤ 1000000 ∧ (x.f0 = 2 → x.f1 ≠ 46)
theorem text_rel {n : Nat} {s : Bld} {u : RSt} (h : Rel n s u) (hn : n ≤ 7000000) (x : S47) (hx : x.f2.size ≤ 1000000) (hm : mayP s.row 46 = true) :
  Rel (n + 2) (textsP s x).1 ⟨u.t ++ [⟨46, x.f2, x.f3, 1⟩], addText x.f2 (u.r.modify (u.r.length - 1) (kidR dotB))⟩ := by
 have hr := row_ne hm
 have hl : 0 < s.row.length := List.length_pos_iff.mpr hr
 have e1 : u.r.length - 1 = (s.row.length - 1) + 1 := by have := h.len; omega
 have hk : Rel (n + 1) ⟨kidP s.row, s.t⟩ ⟨u.t, u.r.modify (u.r.length - 1) (kidR dotB)⟩ := by
  rw [e1]
  exact h.mod (Nat.le_succ n) _ kidF (kidR dotB) (fun _ => rfl) fun o y _ ho => by
   have := ho.kid (by omega) dotB rfl o.past (by rw [inB_dot, Bool.or_false])
   exact this
 have hlast := hk.lastP nB [110] inB_n
 unfold textsP addText
 rw [if_pos hm]
 rw [hlast]
 cases ha : aroundP [110] (kidP s.row) (kidP s.row).length with
 | none =>
  show Rel (n + 2) ⟨kidP s.row, s.t ++ [⟨46, x.f2, x.f3, 1⟩]⟩ ⟨u.t ++ [⟨46, x.f2, x.f3, 1⟩], if (0 : Int) < -1 then _ else _⟩
  rw [if_neg (by omega)]
  exact (hk.up (Nat.le_succ _)).node _
 | some j =>
  show Rel (n + 2) ⟨(kidP s.row).modify j (textF x.f2.size), s.t ++ [⟨46, x.f2, x.f3, 1⟩]⟩ ⟨u.t ++ [⟨46, x.f2, x.f3, 1⟩], if (0 : Int) < ((j + 1 : Nat) : Int) then (u.r.modify (u.r.length - 1) (kidR dotB)).modify (((j + 1 : Nat) : Int)).toNat (textR x.f2) else _⟩
  rw [if_pos (by omega), Int.toNat_natCast]
  exact (hk.mod (Nat.le_succ _) j (textF x.f2.size) (textR x.f2) (fun _ => rfl) fun o y _ ho => ho.txt (by omega) x.f2 hx).node _
theorem open_rel {n : Nat} {s : Bld} {u : RSt} (h : Rel n s u) (hn : n ≤ 7000000) (x : S47) (h0 : 0 ≤ x.f1) (h1 : x.f1 ≤ 255) (h46 : x.f1 ≠ 46) (hm : mayP s.row x.f1 = true) (hc : RChain (opensP s x).1.row) :
  Rel (n + 2) (opensP s x).1 ⟨u.t ++ [⟨x.f1, ⟨#[]⟩, x.f3, 1⟩], addNote x.f1 (u.r.modify (u.r.length - 1) (kidR (byteB x.f1))) ++ [⟨x.f1, ⟨#[]⟩, u.t.length, 0, 0, ⟨#[]⟩⟩]⟩ := by
 have hin := inB_byte 108 x.f1 h0 h1
 have hmem := okP_kind (mayP_ok hm) h46
 have hmark : Rel (n + 2) ⟨kidP (markP s.row x.f1), s.t⟩ ⟨u.t, addNote x.f1 (u.r.modify (u.r.length - 1) (kidR (byteB x.f1)))⟩ := by
  by_cases hr : s.row = []
  ·have h110 : x.f1 ≠ 110 := by
    intro e
    rw [hr, e] at hm
    revert hm
    decide
   unfold addNote
   rw [if_neg h110]
   have e0 : u.r.length - 1 = 0 := by have := h.len; rw [hr] at this; simp at this; omega
   rw [e0]
   have e2 : kidP (markP s.row x.f1) = s.row := by
    rw [hr]
    unfold markP
    rw [if_neg h110]
    split <;> rfl
   rw [e2]
   exact (h.rootmod (kidR (byteB x.f1)) (fun _ => rfl)).up (by omega)
  ·have hl : 0 < s.row.length := List.length_pos_iff.mpr hr
   have e1 : u.r.length - 1 = (s.row.length - 1) + 1 := by have := h.len; omega
   rw [e1]
   unfold kidP
   rw [markP_length]
   unfold markP addNote
   by_cases e110 : x.f1 = 110
   ·rw [if_pos e110, if_pos e110]
    have hkm : Rel (n + 1) ⟨s.row.modify (s.row.length - 1) kidF, s.t⟩ ⟨u.t, u.r.modify (s.row.length - 1 + 1) (kidR (byteB x.f1))⟩ :=
     h.mod (Nat.le_succ n) _ kidF (kidR (byteB x.f1)) (fun _ => rfl) fun o y _ ho => by
      have := ho.kid (by omega) (byteB x.f1) rfl o.past (by rw [hin, e110]; simp)
      exact this
    rw [hkm.lastP flowsB flowK inB_flows, List.length_modify, aroundP_mod flowK kidF (fun _ => rfl)]
    cases ha : aroundP flowK s.row s.row.length with
    | none =>
     exfalso
     rw [e110] at hm
     unfold mayP at hm
     rw [ha] at hm
     revert hm
     split
     ·intro hm; cases hm
     ·simp
    | some j =>
     show Rel (n + 2) ⟨(s.row.modify j noteF).modify (s.row.length - 1) kidF, s.t⟩ ⟨u.t, (u.r.modify (s.row.length - 1 + 1) (kidR (byteB x.f1))).modify (mx ((j + 1 : Nat) : Int) 0).toNat noteR⟩
     have emx : mx ((j + 1 : Nat) : Int) 0 = ((j + 1 : Nat) : Int) := by unfold mx; rw [if_neg (by omega)]
     rw [emx, Int.toNat_natCast, mod_comm s.row noteF kidF (fun _ => rfl)]
     exact hkm.mod (Nat.le_succ _) j noteF noteR (fun _ => rfl) fun o y _ ho => ho.note1 (by omega)
   ·rw [if_neg e110, if_neg e110]
    by_cases e108 : x.f1 = 108
    ·rw [if_pos e108, mod_two]
     exact h.mod (by omega) _ (fun o => kidF (pastF o)) (kidR (byteB x.f1)) (fun _ => rfl) fun o y _ ho => by
      have := ho.kid (by omega) (byteB x.f1) rfl true (by rw [hin, e108]; simp)
      exact this.up (Nat.le_succ _) (Nat.le_refl _)
    ·rw [if_neg e108]
     exact h.mod (by omega) _ kidF (kidR (byteB x.f1)) (fun _ => rfl) fun o y _ ho => by
      have := ho.kid (by omega) (byteB x.f1) rfl o.past (by rw [hin]; simp [e108])
      exact this.up (Nat.le_succ _) (Nat.le_refl _)
 unfold opensP at hc ⊢
 rw [if_pos hm] at hc ⊢
 have hnode := hmark.node ⟨x.f1, ⟨#[]⟩, x.f3, 1⟩
 have ht : u.t.length = s.t.length := by rw [h.t]
 refine hnode.push (o := ⟨x.f1, s.t.length, 0, 0, false, 0, 0⟩) (x := ⟨x.f1, ⟨#[]⟩, u.t.length, 0, 0, ⟨#[]⟩⟩) ⟨rfl, hmem, ?_, ?_, rfl, Nat.zero_le _, rfl, ⟨by show (0 : Int) ≤ 0; omega, by show (0 : Int) ≤ _; omega⟩, by show false = inB 108 ⟨#[]⟩; decide +kernel, rfl, by show (0 : Int) ≤ 0; omega, rfl, Nat.zero_le _⟩ hc
 ·show (u.t.length : Int) = _
  rw [ht]
 ·show (0 : Int) ≤ (s.t.length : Int) ∧ (s.t.length : Int) < ((s.t ++ [_]).length : Int)
  simp
  omega
theorem chain_around {r : List Opn} (hr : RChain r) (hne : r ≠ []) (h1 : (topP r).kind = 114) : 2 ≤ r.length ∧ aroundP [116] r.dropLast r.dropLast.length = some (r.length - 2) ∧ (r.getD (r.length - 2) zOpn).kind = 116 := by
 have hl : 0 < r.length := List.length_pos_iff.mpr hne
 rw [topP_at r hne, List.getD_eq_getElem?_getD, List.getElem?_eq_getElem (show r.length - 1 < r.length by omega)] at h1
 obtain ⟨g1, g2⟩ := hr (r.length - 1) (by rw [List.getElem?_eq_getElem (show r.length - 1 < r.length by omega)]; simpa using h1)
 rw [show r.length - 1 - 1 = r.length - 2 from by omega] at g2
 have g3 : (r.getD (r.length - 2) zOpn).kind = 116 := by
  rw [List.getElem?_eq_getElem (show r.length - 2 < r.length by omega)] at g2
  rw [List.getD_eq_getElem?_getD, List.getElem?_eq_getElem (show r.length - 2 < r.length by omega)]
  simpa using g2
 refine ⟨by omega, ?_, g3⟩
 rw [List.length_dropLast, show r.length - 1 = (r.length - 2) + 1 from by omega]
 simp only [aroundP]
 rw [getD_init _ _ _ (by omega), g3]
 rfl
def shutW (s : Bld) : Bool := if s.row = [] then false else (wholeP s.row.dropLast (topP s.row)).2
theorem shut_says (s : Bld) (x : S47) : (shutsP s x).2 = (x.f3, if shutW s = true then 0 else 2) := by
 unfold shutsP shutW
 by_cases hr : s.row = []
 ·rw [if_pos hr, if_pos hr]; rfl
 ·rw [if_neg hr, if_neg hr]
theorem shut_code {n : Nat} {s : Bld} {u : RSt} (h : Rel n s u) (x : S47) (o : Bool) (h3 : x.f0 = 3) : stepR o u x = if shutW s = true then (0, 0) else (x.f3, 2) := by
 unfold stepR shutW
 rw [if_neg (show ¬ x.f0 = 1 by omega), if_neg (show ¬ x.f0 = 2 by omega), inB_ltr]
 by_cases hr : s.row = []
 ·rw [if_pos hr, if_pos (show u.r.length = 1 ∨ _ from .inl (h.one.mpr hr))]
  rfl
 ·have hl : 0 < s.row.length := List.length_pos_iff.mpr hr
  have ho := h.top hr
  have n1 : ¬ u.r.length = 1 := fun e => hr (h.one.mp e)
  rw [if_neg hr, ho.kind]
  have hkids := ho.kids
  unfold wholeP
  by_cases k1 : (topP s.row).kind = 108 ∨ (topP s.row).kind = 116
  ·have hc : [(108 : Int), 116, 114].contains (topP s.row).kind = true := by
    rw [List.contains_iff_mem]
    simp only [List.mem_cons, List.not_mem_nil, or_false]
    omega
   rw [hc, if_pos k1]
   by_cases hz : (topR u.r).f1.size = 0
   ·rw [if_pos (show u.r.length = 1 ∨ (true = true ∧ _) from .inr ⟨rfl, hz⟩)]
    show _ = if decide (0 < (topP s.row).kids) = true then _ else _
    rw [if_neg (by rw [decide_eq_true_eq, hkids, hz]; omega)]
   ·rw [if_neg (fun (e : u.r.length = 1 ∨ _ ∧ _) => e.elim n1 fun e => hz e.2), if_neg (show ¬ (topP s.row).kind = 114 by omega)]
    show _ = if decide (0 < (topP s.row).kids) = true then _ else _
    rw [if_pos (by rw [decide_eq_true_eq, hkids]; omega)]
  ·rw [if_neg k1]
   by_cases k2 : (topP s.row).kind = 114
   ·have hc : [(108 : Int), 116, 114].contains (topP s.row).kind = true := by
     rw [k2]; rfl
    obtain ⟨g1, g2, g3⟩ := chain_around h.chain hr k2
    have hp := h.op (s.row.length - 2) (by omega)
    have ei : s.row.length - 2 + 1 = u.r.length - 2 := by have := h.len; omega
    rw [hc, if_pos k2, g2, if_pos k2, rd_at]
    rw [ei] at hp
    have hcols := hp.cols
    have hcle := hp.cle
    have eg : s.row.dropLast.getD (s.row.length - 2) zOpn = s.row.getD (s.row.length - 2) zOpn := getD_init _ _ _ (by omega)
    rw [hcols]
    generalize s.row.getD (s.row.length - 2) zOpn = P at *
    by_cases hz : (topR u.r).f1.size = 0
    ·rw [if_pos (show u.r.length = 1 ∨ (true = true ∧ _) from .inr ⟨rfl, hz⟩)]
     simp only [eg]
     have : decide (0 < (topP s.row).kids) = false := by rw [decide_eq_false_iff_not, hkids, hz]; omega
     rw [this]
     split <;> rfl
    ·rw [if_neg (fun (e : u.r.length = 1 ∨ _ ∧ _) => e.elim n1 fun e => hz e.2)]
     have : decide (0 < (topP s.row).kids) = true := by rw [decide_eq_true_eq, hkids]; omega
     simp only [eg, this, Bool.true_and]
     by_cases hc0 : P.cols = 0
     ·rw [if_neg (by omega), if_pos hc0]
      rfl
     ·rw [if_pos (by omega), if_neg hc0]
      by_cases hq : P.cols = ((topR u.r).f1.size : Int)
      ·have : ((topP s.row).kids == P.cols) = true := by rw [beq_iff_eq, hkids, hq]
       rw [if_pos hq]
       simp only [this]
       rfl
      ·have : ((topP s.row).kids == P.cols) = false := by rw [beq_eq_false_iff_ne, hkids]; exact fun e => hq e.symm
       rw [if_neg hq]
       simp only [this]
       rfl
   ·have hc : [(108 : Int), 116, 114].contains (topP s.row).kind = false := by
     rw [← Bool.not_eq_true, List.contains_iff_mem]
     simp only [List.mem_cons, List.not_mem_nil, or_false]
     omega
    rw [hc, if_neg k2, if_neg k2, if_neg (fun (e : u.r.length = 1 ∨ _ ∧ _) => e.elim n1 fun e => by cases e.1)]
    rfl
theorem shut_rel {n : Nat} {s : Bld} {u : RSt} (h : Rel n s u) (x : S47) (hok : (shutsP s x).2.2 = 0) :
  2 ≤ u.r.length ∧ 0 ≤ (topR u.r).f2 ∧ (topR u.r).f2 < u.t.length ∧ Rel n (shutsP s x).1 ⟨u.t.modify (topR u.r).f2.toNat (sizeF (u.t.length - (topR u.r).f2)), (addCols u.r).dropLast⟩ := by
 by_cases hr : s.row = []
 ·unfold shutsP at hok
  rw [if_pos hr] at hok
  cases hok
 ·have hl : 0 < s.row.length := List.length_pos_iff.mpr hr
  have ho := h.top hr
  have hpin := ho.pin
  refine ⟨by have := h.len; omega, by rw [ho.pos]; exact hpin.1, by rw [ho.pos, h.t]; exact hpin.2, ?_⟩
  unfold shutsP
  rw [if_neg hr, ho.pos, h.t]
  have hd := h.drop hr
  have key : Rel n ⟨(wholeP s.row.dropLast (topP s.row)).1, s.t⟩ ⟨u.t, (addCols u.r).dropLast⟩ := by
   unfold wholeP addCols
   rw [ho.kind]
   by_cases k2 : (topP s.row).kind = 114
   ·obtain ⟨g1, g2, g3⟩ := chain_around h.chain hr k2
    have hp := h.op (s.row.length - 2) (by omega)
    have ei : s.row.length - 2 + 1 = u.r.length - 2 := by have := h.len; omega
    rw [ei] at hp
    have eg : s.row.dropLast.getD (s.row.length - 2) zOpn = s.row.getD (s.row.length - 2) zOpn := getD_init _ _ _ (by omega)
    rw [if_neg (by omega), if_pos k2, g2]
    simp only [eg]
    rw [rd_at, hp.cols]
    by_cases hc0 : (s.row.getD (s.row.length - 2) zOpn).cols = 0
    ·rw [if_pos hc0, if_pos ⟨k2, hc0⟩, init_mod, ← ei]
     have hks : (topP s.row).kids = ((topR u.r).f1.size : Int) := ho.kids
     rw [hks]
     exact hd.mod (Nat.le_refl _) (s.row.length - 2) (colsF ((topR u.r).f1.size : Nat)) (colR ((topR u.r).f1.size : Nat)) (fun _ => rfl) fun o y _ hoy => hoy.col _
    ·rw [if_neg hc0, if_neg (fun e => hc0 e.2)]
     exact hd
   ·rw [if_neg (fun (e : _ ∧ _) => k2 e.1)]
    by_cases k1 : (topP s.row).kind = 108 ∨ (topP s.row).kind = 116
    ·rw [if_pos k1]; exact hd
    ·rw [if_neg k1, if_neg k2]; exact hd
  rw [h.t] at key
  exact key.size (topP s.row).pos.toNat _
end Go.Proofs.Ythcmfjpheanphaa.Pr
