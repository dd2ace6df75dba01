/- Texts of this seat, one behind the other. -/
import Derived.WalkKit
import Derived.Test.YthcmfjpheanphaaXTreeChecks1
import Derived.Test.YthcmfjpheanphaaXTreeChecks2
import Derived.Test.YthcmfjpheanphaaXTreeChecks3
import Derived.Test.YthcmfjpheanphaaXTreeChecks4
import Derived.Test.YthcmfjpheanphaaXTreeChecks5
import Derived.Test.YthcmfjpheanphaaXTreeChecks6
import Derived.Test.YthcmfjpheanphaaXTreeChecks7
import Derived.Test.YthcmfjpheanphaaXTreeChecks8
import Derived.Test.YthcmfjpheanphaaXTreeChecks9
import Derived.Test.YthcmfjpheanphaaXTreeChecks10
set_option linter.unusedVariables false
set_option linter.unusedSimpArgs false
namespace Go.Proofs.Ythcmfjpheanphaa.Pr
open Go.RowKit Go.Proofs.Ythcmfjpheanphaa.Pure Go.Proofs.YthcmfjpheanphaaW.PrintWords
theorem hasP_kinds (k : Int) {r r' : List Opn} (h : ∀ i : Nat, r'[i]?.map Opn.kind = r[i]?.map Opn.kind) : hasP k r' = hasP k r := by
 have e : r'.map Opn.kind = r.map Opn.kind := List.ext_getElem? fun i => by rw [List.getElem?_map, List.getElem?_map]; exact h i
 have g : ∀ l : List Opn, hasP k l = ((l.map Opn.kind).filter (· == k)).length := fun l => by
  unfold hasP
  rw [List.filter_map, List.length_map]
  rfl
 rw [g, g, e]
theorem hasP_snoc (k : Int) (r : List Opn) (o : Opn) : hasP k (r ++ [o]) = hasP k r + if o.kind = k then 1 else 0 := by
 unfold hasP
 rw [List.filter_append, List.length_append, List.filter_cons]
 by_cases h : o.kind = k
 ·rw [if_pos (by simpa using h), if_pos h]; rfl
 ·rw [if_neg (by simpa using h), if_neg h]; rfl
theorem hasP_init (k : Int) (r : List Opn) : hasP k r.dropLast ≤ hasP k r := by
 by_cases h : r = []
 ·subst h; exact Nat.le_refl _
 ·have := hasP_snoc k r.dropLast (r.getLast h)
  rw [List.dropLast_concat_getLast h] at this
  omega
structure Steps (n : Nat) (s : Bld) (u : RSt) (x : S47) (e : Int × Int) (q : Int × Int) : Prop where
 form : e.2 = 2 ↔ q.2 = 2
 at_ : q.2 = 2 → e = q
 on : e.2 ≠ 2 → ∃ u', rstep u x = some u' ∧ Rel (n + 2) (stepP s x).1 u'
 deep : q.2 = 5 → e.2 = 5
 inE : e.2 = 0 ∨ e.2 = 2 ∨ e.2 = 4 ∨ e.2 = 5
 inQ : q.2 = 0 ∨ q.2 = 2 ∨ q.2 = 4 ∨ q.2 = 5
 same : hasP 108 s.row ≤ 8 → e.2 = q.2 ∧ (q.2 ≠ 0 → e = q)
 few : hasP 108 s.row ≤ 8 → e.2 ≠ 2 → e.2 ≠ 5 → hasP 108 (stepP s x).1.row ≤ 8
theorem texts_code {n : Nat} {s : Bld} {u : RSt} (h : Rel n s u) (hn : n ≤ 7000000) (x : S47) (o : Bool) (h1 : x.f0 = 1) : ((textsP s x).2.2 = (stepR o u x).2 ∧ ((stepR o u x).2 ≠ 0 → (textsP s x).2 = stepR o u x)) ∧ ((stepR o u x).2 = 0 ∨ (stepR o u x).2 = 4 ∨ ((stepR o u x).2 = 2 ∧ mayP s.row 46 = false)) := by
 unfold stepR textsP
 rw [if_pos h1, h.texts, h.t]
 by_cases hm : mayP s.row 46 = true
 ·rw [if_pos hm, if_pos hm, h.lastP nB [110] inB_n]
  have hka : aroundP [110] (kidP s.row) (kidP s.row).length = aroundP [110] s.row s.row.length := by
   unfold kidP
   rw [List.length_modify, aroundP_mod [110] kidF (fun _ => rfl)]
  rw [hka]
  cases ha : aroundP [110] s.row s.row.length with
  | none =>
   simp only
   rw [if_neg (show ¬ (0 : Int) < -1 by decide)]
   by_cases h2 : 2000 ≤ s.t.length
   ·rw [if_pos (by omega), if_pos h2]
    exact ⟨⟨rfl, fun _ => rfl⟩, .inr (.inl rfl)⟩
   ·rw [if_neg (by omega), if_neg h2]
    exact ⟨⟨rfl, fun h => absurd rfl h⟩, .inl rfl⟩
  | some j =>
   have hj := (around_lt _ _ _ _ ha).1
   simp only
   have hop := h.op j hj
   have htx : ((kidP s.row).getD j zOpn).text = ((u.r.getD (j + 1) z159).f5.size : Int) := by
    unfold kidP
    rw [getD_mod, ← hop.text]
    split <;> rfl
   rw [htx, if_pos (show (0 : Int) < ((j + 1 : Nat) : Int) by omega), rd_at]
   by_cases h2 : 2000 ≤ s.t.length
   ·rw [if_pos (by omega), if_pos h2]
    exact ⟨⟨rfl, fun _ => rfl⟩, .inr (.inl rfl)⟩
   ·rw [if_neg h2]
    by_cases h3 : 60 < wrap64 (((u.r.getD (j + 1) z159).f5.size : Int) + x.f2.size)
    ·rw [if_pos (.inl h3), if_pos h3]
     exact ⟨⟨rfl, fun _ => rfl⟩, .inr (.inl rfl)⟩
    ·rw [if_neg (fun e => e.elim h3 (by omega)), if_neg h3]
     exact ⟨⟨rfl, fun h => absurd rfl h⟩, .inl rfl⟩
 ·rw [if_neg hm, if_neg hm]
  by_cases h2 : blackP x.f2 x.f2.size 0 < x.f2.size
  ·rw [if_pos h2, if_pos h2]
   exact ⟨⟨rfl, fun _ => rfl⟩, .inr (.inr ⟨rfl, Bool.eq_false_iff.mpr hm⟩)⟩
  ·rw [if_neg h2, if_neg h2]
   exact ⟨⟨rfl, fun h => absurd rfl h⟩, .inl rfl⟩
theorem kinds_texts (s : Bld) (x : S47) (i : Nat) : (textsP s x).1.row[i]?.map Opn.kind = s.row[i]?.map Opn.kind := by
 unfold textsP
 split
 ·split
  ·exact (kinds_modify (kidP s.row) (textF x.f2.size) (fun _ => rfl) _ i).trans (kinds_kidP s.row i)
  ·exact kinds_kidP s.row i
 ·split <;> rfl
theorem rstep_text {u : RSt} {x : S47} (h1 : x.f0 = 1) : rstep u x = if textsR u.r = true then some ⟨u.t ++ [⟨46, x.f2, x.f3, 1⟩], addText x.f2 (u.r.modify (u.r.length - 1) (kidR dotB))⟩ else some u := by
 unfold rstep
 rw [if_pos h1]
theorem step_both {n : Nat} {s : Bld} {u : RSt} (h : Rel n s u) (hn : n ≤ 7000000) (x : S47) (hx : LexF x) : Steps n s u x (stepP s x).2 (stepR (opensR u.r x.f1) u x) := by
 obtain ⟨hf, hx0, hx1, hsz, h46⟩ := hx
 rcases hf with h1 | h2 | h3
 ·obtain ⟨⟨c1, c2⟩, c3⟩ := texts_code h hn x (opensR u.r x.f1) h1
  have es : stepP s x = textsP s x := by unfold stepP; rw [if_pos h1]
  rw [es]
  refine ⟨by rw [c1], fun e => c2 (by omega), fun hne => ?_, fun e => by rw [c1, e], by omega, by omega, fun _ => ⟨c1, c2⟩, fun hh _ _ => ?_⟩
  ·rw [rstep_text h1, h.texts, es]
   by_cases hm : mayP s.row 46 = true
   ·rw [if_pos hm]
    exact ⟨_, rfl, text_rel h hn x hsz hm⟩
   ·rw [if_neg hm]
    refine ⟨_, rfl, ?_⟩
    unfold textsP
    rw [if_neg hm]
    split
    ·exact h.up (by omega)
    ·exact h.up (by omega)
  ·rw [es]
   rw [hasP_kinds 108 (kinds_texts s x)]
   exact hh
 ·have es : stepP s x = opensP s x := by unfold stepP; rw [if_neg (by omega), if_pos h2]
  have ho := h.opens x.f1 (h46 h2)
  have hchain := stepP_chain s x h.chain
  rw [es] at hchain ⊢
  have hq : stepR (opensR u.r x.f1) u x = if mayP s.row x.f1 = true then (if 32 < s.row.length + 1 ∨ (x.f1 = 108 ∧ 8 ≤ hasP 108 s.row) then (x.f3, 5) else if 2000 ≤ s.t.length then (x.f3, 4) else (0, 0)) else (x.f3, 2) := by
   unfold stepR
   rw [if_neg (show ¬ x.f0 = 1 by omega), if_pos h2, ho, h.len, h.many, h.t]
  rw [hq]
  by_cases hm : mayP s.row x.f1 = true
  ·have hrel := open_rel h hn x hx0 hx1 (h46 h2) hm hchain
   have hr : rstep u x = some ⟨u.t ++ [⟨x.f1, ⟨#[]⟩, x.f3, 1⟩], addNote x.f1 (u.r.modify (u.r.length - 1) (kidR (byteB x.f1))) ++ [⟨x.f1, ⟨#[]⟩, u.t.length, 0, 0, ⟨#[]⟩⟩]⟩ := by
    unfold rstep
    rw [if_neg (show ¬ x.f0 = 1 by omega), if_pos h2]
   have hhas : hasP 108 (kidP (markP s.row x.f1) ++ [⟨x.f1, s.t.length, 0, 0, false, 0, 0⟩]) = hasP 108 s.row + if x.f1 = 108 then 1 else 0 := by
    rw [hasP_snoc, hasP_kinds 108 fun i => (kinds_kidP _ i).trans (kinds_markP s.row x.f1 i)]
   have hop : opensP s x = (⟨kidP (markP s.row x.f1) ++ [⟨x.f1, s.t.length, 0, 0, false, 0, 0⟩], s.t ++ [⟨x.f1, ⟨#[]⟩, x.f3, 1⟩]⟩, x.f3, if 32 < s.row.length + 1 ∨ 8 < hasP 108 s.row + (if x.f1 = 108 then 1 else 0) then 5 else if 2000 < s.t.length + 1 then 4 else 0) := by
    unfold opensP
    rw [if_pos hm, hhas]
   have hrow : (opensP s x).1.row = kidP (markP s.row x.f1) ++ [⟨x.f1, s.t.length, 0, 0, false, 0, 0⟩] := by rw [hop]
   have hcode : (opensP s x).2 = (x.f3, if 32 < s.row.length + 1 ∨ 8 < hasP 108 s.row + (if x.f1 = 108 then 1 else 0) then 5 else if 2000 < s.t.length + 1 then 4 else 0) := by rw [hop]
   rw [if_pos hm, hcode]
   have h12 : (if x.f1 = 108 then 1 else 0) ≤ 1 ∧ (x.f1 = 108 → (if x.f1 = 108 then 1 else 0) = 1) ∧ (¬ x.f1 = 108 → (if x.f1 = 108 then 1 else 0) = 0) := by
    by_cases e : x.f1 = 108
    ·rw [if_pos e]; exact ⟨by omega, fun _ => rfl, fun h => absurd e h⟩
    ·rw [if_neg e]; exact ⟨by omega, fun h => absurd h e, fun _ => rfl⟩
   generalize hI : (if x.f1 = 108 then 1 else 0) = I at *
   obtain ⟨i1, i2, i3⟩ := h12
   by_cases hd : 32 < s.row.length + 1 ∨ (x.f1 = 108 ∧ 8 ≤ hasP 108 s.row)
   ·have hd' : 32 < s.row.length + 1 ∨ 8 < hasP 108 s.row + I := by
     rcases hd with a | ⟨a, b⟩
     ·exact .inl a
     ·have := i2 a; exact .inr (by omega)
    rw [if_pos hd, if_pos hd']
    refine ⟨Iff.rfl, fun _ => rfl, fun _ => ⟨_, hr, by rw [es]; exact hrel⟩, fun _ => rfl, .inr (.inr (.inr rfl)), .inr (.inr (.inr rfl)), fun _ => ⟨rfl, fun _ => rfl⟩, fun _ _ e => absurd rfl e⟩
   ·rw [if_neg hd]
    have hq2 : ∀ z : Int × Int, z = (if 2000 ≤ s.t.length then (x.f3, 4) else (0, 0)) → z.2 = 0 ∨ z.2 = 4 := by
     rintro z rfl
     split
     ·exact .inr rfl
     ·exact .inl rfl
    have hz := hq2 _ rfl
    by_cases hd' : 32 < s.row.length + 1 ∨ 8 < hasP 108 s.row + I
    ·rw [if_pos hd']
     refine ⟨⟨fun e => (by cases e), fun e => (by omega)⟩, fun e => (by omega), fun _ => ⟨_, hr, by rw [es]; exact hrel⟩, fun e => rfl, .inr (.inr (.inr rfl)), by omega, fun hh => ?_, fun _ _ e => absurd rfl e⟩
     exfalso
     rcases hd' with a | a
     ·exact hd (.inl a)
     ·by_cases e : x.f1 = 108
      ·exact hd (.inr ⟨e, by have := i2 e; omega⟩)
      ·have := i3 e; omega
    ·rw [if_neg hd']
     by_cases hb : 2000 ≤ s.t.length
     ·rw [if_pos hb, if_pos (by omega)]
      refine ⟨Iff.rfl, fun _ => rfl, fun _ => ⟨_, hr, by rw [es]; exact hrel⟩, fun e => (by cases e), .inr (.inr (.inl rfl)), .inr (.inr (.inl rfl)), fun _ => ⟨rfl, fun _ => rfl⟩, fun hh _ _ => ?_⟩
      rw [es, hrow, hhas]; omega
     ·rw [if_neg hb, if_neg (by omega)]
      refine ⟨Iff.rfl, fun e => (by cases e), fun _ => ⟨_, hr, by rw [es]; exact hrel⟩, fun e => (by cases e), .inl rfl, .inl rfl, fun _ => ⟨rfl, fun e => absurd rfl e⟩, fun hh _ _ => ?_⟩
      rw [es, hrow, hhas]; omega
  ·have hop : opensP s x = (s, x.f3, 2) := by
    unfold opensP
    rw [if_neg hm]
   rw [if_neg hm, hop]
   exact ⟨Iff.rfl, fun _ => rfl, fun e => absurd rfl e, fun e => (by cases e), .inr (.inl rfl), .inr (.inl rfl), fun _ => ⟨rfl, fun _ => rfl⟩, fun _ e _ => absurd rfl e⟩
 ·have es : stepP s x = shutsP s x := by unfold stepP; rw [if_neg (by omega), if_neg (by omega)]
  have hc := shut_code h x (opensR u.r x.f1) h3
  have hs := shut_says s x
  rw [es, hs, hc]
  by_cases hw : shutW s = true
  ·rw [if_pos hw, if_pos hw]
   have h0 : (shutsP s x).2.2 = 0 := by rw [hs, if_pos hw]
   obtain ⟨a1, a2, a3, a4⟩ := shut_rel h x h0
   have hr : rstep u x = some ⟨u.t.modify (topR u.r).f2.toNat (sizeF (u.t.length - (topR u.r).f2)), (addCols u.r).dropLast⟩ := by
    unfold rstep
    rw [if_neg (by omega), if_neg (by omega), if_pos ⟨a1, a2, a3⟩]
   refine ⟨Iff.rfl, fun e => (by cases e), fun _ => ⟨_, hr, by rw [es]; exact a4.up (by omega)⟩, fun e => (by cases e), .inl rfl, .inl rfl, fun _ => ⟨rfl, fun e => absurd rfl e⟩, fun hh _ _ => ?_⟩
   rw [es]
   unfold shutsP
   by_cases hr : s.row = []
   ·rw [if_pos hr]; exact hh
   ·rw [if_neg hr]
    show hasP 108 (wholeP s.row.dropLast (topP s.row)).1 ≤ 8
    rw [hasP_kinds 108 (kinds_wholeP _ _)]
    exact Nat.le_trans (hasP_init _ _) hh
  ·rw [if_neg hw, if_neg hw]
   exact ⟨Iff.rfl, fun _ => rfl, fun e => absurd rfl e, fun e => (by cases e), .inr (.inl rfl), .inr (.inl rfl), fun _ => ⟨rfl, fun _ => rfl⟩, fun _ e _ => absurd rfl e⟩
theorem rel0 : Rel 0 bld0 read0 := ⟨rfl, rfl, rfl, fun i hi => by simp [bld0] at hi, by intro i hi; simp [bld0] at hi⟩
end Go.Proofs.Ythcmfjpheanphaa.Pr
namespace Go.Proofs.Ythcmfjpheanphaa.Pr
open Go.RowKit Go.Maps Go.Proofs.Ythcmfjpheanphaa.Pure Go.Proofs.YthcmfjpheanphaaW.PrintWords
attribute [local go_sem] Oper.semAt_some
def StepQ (q : Int × Int) (w : World) (e : Ending) (w' : World) : Prop := e = .returned (.tuple #[.int .i64 q.1, .int .i64 q.2]) ∧ Below w.heap.size w w'
theorem cellsX {W : World} {g : Nat} {t : TypeId} {a b c d : Value} (h : W.heap[g]? = some (.cells #[a, b, c, d] t (0, 0))) : W.cell? ⟨g, 0, none⟩ = some a ∧ W.cell? ⟨g, 1, none⟩ = some b ∧ W.cell? ⟨g, 2, none⟩ = some c ∧ W.cell? ⟨g, 3, none⟩ = some d :=
 ⟨by have := blk_cell h 0; simpa using this, by have := blk_cell h 1; simpa using this, by have := blk_cell h 2; simpa using this, by have := blk_cell h 3; simpa using this⟩
theorem cellsY {W : World} {g : Nat} {t : TypeId} {a b c d e f : Value} (h : W.heap[g]? = some (.cells #[a, b, c, d, e, f] t (0, 0))) : W.cell? ⟨g, 0, none⟩ = some a ∧ W.cell? ⟨g, 1, none⟩ = some b :=
 ⟨by have := blk_cell h 0; simpa using this, by have := blk_cell h 1; simpa using this⟩
set_option pp.maxSteps 3000 in
set_option maxRecDepth 100000 in
set_option maxHeartbeats 8000000 in
theorem step04_calls (A0 : Option Addr) (c0 : Nat) (t : List S56) (A1 : Option Addr) (c1 : Nat) (r : List S159) (f0 f1 : Int) (f2 : ByteArray) (f3 : Int) (w : World) (hr1 : Kd.C k159 w A1 r.length r) (hc1 : r.length ≤ c1) (h0 : 0 < r.length) (hr : r.length ≤ 800000)
  (hk : (topR r).f1.size ≤ 800000) (hx : f2.size ≤ 1000000) :
  Calls Try.prog 96 #[.slice A0 t.length c0, .slice A1 r.length c1, .agg #[.int .i64 f0, .int .u8 f1, .string f2, .int .i64 f3]] w (StepQ (stepR (opensR r f1) ⟨t, r⟩ ⟨f0, f1, f2, f3⟩) w) := by
 obtain ⟨n, hn⟩ : ∃ n, r.length = n + 1 := ⟨r.length - 1, by omega⟩
 have hb1 : Below w.heap.size w (w.alloc (.cells #[.int .i64 f0, .int .u8 f1, .string f2, .int .i64 f3] 47)) := (Below.refl _ w).alloc (Nat.le_refl _) _
 obtain ⟨ad, rfl, q0, q1, q2, q3, q4, q5⟩ := at_T159 (Kd.C_below hr1 hb1) (n : Int) (by omega) (by omega)
 simp only [Int.toNat_natCast] at q0 q1 q2 q3 q4 q5
 have et : topR r = rd_T159 r (n : Int) := by unfold topR; rw [hn, Nat.add_sub_cancel]
 rw [← et] at q0 q1 q2 q3 q4 q5
 have hnl : (n : Int) < (r.length : Int) := by omega
 have HA := Lib.hid hr1
 obtain ⟨q, hq⟩ : ∃ q, stepR (opensR r f1) ⟨t, r⟩ ⟨f0, f1, f2, f3⟩ = q := ⟨_, rfl⟩
 rw [hq]
 have HQ := Lib.hid hq
 obtain ⟨y, hy⟩ : ∃ y, topR r = y := ⟨_, rfl⟩
 rw [hy] at q0 q1 q2 q3 q4 q5
 have HY := Lib.hid hy
 obtain ⟨y0, y1, y2, y3, y4, y5⟩ := y
 simp only at q0 q1 q2 q3 q4 q5
 clear hq hr1 et hb1 hy
 have hW2 : Below w.heap.size w ((w.alloc (.cells #[.int .i64 f0, .int .u8 f1, .string f2, .int .i64 f3] 47)).alloc (.cells #[.int .u8 y0, .string y1, .int .i64 y2, .int .i64 y3, .int .i64 y4, .string y5] 159)) :=
  ((Below.refl _ w).alloc (Nat.le_refl _) _).alloc (by simp) _
 have HX := Lib.hid (blk_alloc (blk_new w (.cells #[.int .i64 f0, .int .u8 f1, .string f2, .int .i64 f3] 47)) (.cells #[.int .u8 y0, .string y1, .int .i64 y2, .int .i64 y3, .int .i64 y4, .string y5] 159))
 have HYY := blk_new (w.alloc (.cells #[.int .i64 f0, .int .u8 f1, .string f2, .int .i64 f3] 47)) (.cells #[.int .u8 y0, .string y1, .int .i64 y2, .int .i64 y3, .int .i64 y4, .string y5] 159)
 rw [World.size_alloc] at HYY
 have hw1 : (r.length : Int) - 1 = (n : Int) := by omega
 have hw2 : wrap64 ((r.length : Int) - 1) = (n : Int) := by rw [hn]; exact wrap_p n (by omega)
 have HN := Lib.hid hn
 clear hn
 go_enter Try.func96, Try.ntmps96
 go_upto_region 2 with (fail)
 generalize (w.alloc (.cells #[.int .i64 f0, .int .u8 f1, .string f2, .int .i64 f3] 47)).alloc (.cells #[.int .u8 y0, .string y1, .int .i64 y2, .int .i64 y3, .int .i64 y4, .string y5] 159) = W2 at *
 have HB2 := Lib.hid hW2
 have HYZ := Lib.hid HYY
 clear q0 q1 q2 q3 q4 q5 hW2 HYY hw1 hw2
 have hn := HN.out
 have HTX := Lib.hid (fun W (hb : Below w.heap.size w W) => stylusref04_Texts.calls 900000 (some ad) c1 r (textsR r) W (Kd.C_below HA.out hb) hc1 (texts_f r (by omega) h0 (by omega) 900000 (by omega)))
 have HLA := Lib.hid (fun W (hb : Below w.heap.size w W) => stylusref04_last.calls 900000 (some ad) c1 r ⟨#[110]⟩ (lastP nB r) W (Kd.C_below HA.out hb) hc1 (last_f nB (by decide) r (by omega) h0 900000 (by omega)))
 have HOP := Lib.hid (fun W (hb : Below w.heap.size w W) => stylusref04_opens.calls 2600000 (some ad) c1 r f1 (opensR r f1) W (Kd.C_below HA.out hb) hc1 (opens_f r (by omega) h0 (by omega) f1 2600000 (by omega)))
 have HMA := Lib.hid (fun W (hb : Below w.heap.size w W) => stylusref04_many.calls 900000 (some ad) c1 r 108 (manyP 108 r) W (Kd.C_below HA.out hb) hc1 (many_f 108 r (by omega) h0 900000 (by omega)))
 have HIN := Lib.hid (fun W => stylusref04_in.calls 100 y0 ⟨#[108, 116, 114]⟩ (inB y0 ltrB) W (in_f _ ltrB (by decide) 100 (by show 3 + 1 ≤ 100; omega)))
 clear hn
 have hx2 := cellsX HX.out
 obtain ⟨x0, x1, x2, x3⟩ := hx2
 by_cases h1 : f0 = 1
 ·have e1 : (f0 == 1) = true := beq_iff_eq.2 h1
  cases htx : textsR r with
  | false =>
   rw [htx] at HTX
   go_wp2_with (go_at_call 108; (with_reducible refine (HTX.out _ HB2.out).mono ?_); rintro e W3 ⟨rfl, hb3⟩)
   have HB3 := Lib.hid (HB2.out.trans (hb3.mono HB2.out.size))
   have HX3 := Lib.hid (blk_below HX.out hb3)
   have HQ1 : q = if blackP f2 f2.size 0 < f2.size then (wrap64 (f3 + blackP f2 f2.size 0), 2) else (0, 0) := by
    rw [← HQ.out]
    unfold stepR
    rw [if_pos h1]
    show (if textsR r = true then _ else _) = _
    rw [htx, if_neg (by decide)]
   have HQ2 := Lib.hid HQ1
   clear HQ1 hb3 x0 x1 x2 x3 HB2 HX HYZ HTX HLA HOP HMA HIN HQ HA HY
   go_loopw [9] (fun v wr => ∃ j : Nat, j ≤ f2.size ∧ v = .int .i64 j ∧ Below W3.heap.size W3 wr ∧ blackP f2 f2.size 0 = blackP f2 (f2.size - j) j) (fun v _ => f2.size - (intOf v).toNat)
   case atStart => exact ⟨0, Nat.zero_le _, rfl, Below.refl _ _, rfl⟩
   case round =>
    obtain ⟨j, hj, rfl, hB, hbl⟩ := hrel
    have HBL := Lib.hid hbl
    have HBB := Lib.hid (HB3.out.trans (hB.mono HB3.out.size))
    have HXr := Lib.hid (blk_below HX3.out hB)
    obtain ⟨x0, x1, x2, x3⟩ := cellsX HXr.out
    have HB := Lib.hid hB
    clear hbl hB
    by_cases hlt : j < f2.size
    ·have hlt1 : (j : Int) < (f2.size : Int) := by omega
     have hbr := bt_range f2 j
     have hst : blackP f2 (f2.size - j) j = if whiteT (bt f2 j) = true then blackP f2 (f2.size - (j + 1)) (j + 1) else j := by
      rw [show f2.size - j = (f2.size - (j + 1)) + 1 from by omega]
      simp only [blackP]
      rw [if_pos hlt]
     have hw := fun W => stylusref01_White.calls (bt f2 j) (whiteP (bt f2 j)) W (is_at (bt f2 j) hbr.1 hbr.2 20 (by omega)).2.1
     have HST := Lib.hid hst
     obtain ⟨b, hbw⟩ : ∃ b, whiteP (bt f2 j) = b := ⟨_, rfl⟩
     rw [hbw] at hw
     have HBW := Lib.hid (show whiteT (bt f2 j) = b from hbw)
     have HW := Lib.hid hw
     clear hst hw hbw
     have hx5 : ∀ h : j < f2.size, ((f2[j]'h).toNat : Int) = bt f2 j := fun h => by simpa using bt_at f2 (j : Int) (by simpa using h)
     generalize bt f2 j = ch at *
     cases b
     ·go_wp2_with (go_at_call 84; (with_reducible refine (HW.out _).mono ?_); rintro e W4 ⟨rfl, ⟨⟨nd, rfl⟩⟩⟩; have x3' := blk_cell (blk_below HXr.out (pw_below_drewN (Below.refl _ _) nd)) 3; simp only [List.getElem?_toArray, List.getElem?_cons_succ, List.getElem?_cons_zero] at x3')
      go_ret2
      have hres : blackP f2 f2.size 0 = j := by rw [HBL.out, HST.out, HBW.out]; rfl
      refine ⟨?_, pw_below_drewN HBB.out nd⟩
      rw [HQ2.out, hres, if_pos hlt]
      rfl
     ·go_wp2_with (go_at_call 84; (with_reducible refine (HW.out _).mono ?_); rintro e W4 ⟨rfl, ⟨⟨nd, rfl⟩⟩⟩)
      go_roundw
      case rel => exact ⟨j + 1, by omega, by go_num, pw_below_drewN HB.out nd, by rw [HBL.out, HST.out, HBW.out]; rfl⟩
      case measure => simp [intOf]; omega
    ·obtain rfl : j = f2.size := by omega
     go_wp2
     go_ret2
     have hres : ¬ blackP f2 f2.size 0 < f2.size := by rw [HBL.out, Nat.sub_self]; simp [blackP]
     refine ⟨?_, HBB.out⟩
     rw [HQ2.out, if_neg hres]
     rfl
  | true =>
   go_wp2_with (first | (go_at_call 108; (with_reducible refine (HTX.out _ HB2.out).mono ?_); rintro e W3 ⟨rfl, hb3⟩; have HB3 := Lib.hid (HB2.out.trans (hb3.mono HB2.out.size)); have HX3 := Lib.hid (blk_below HX.out hb3); clear hb3) | (go_at_call 137; (with_reducible refine (HLA.out _ HB3.out).mono ?_); rintro e W4 ⟨rfl, ⟨⟨nd, rfl⟩⟩⟩; have HB4 := Lib.hid (pw_below_drewN HB3.out nd); have HX4 := Lib.hid (blk_below HX3.out (pw_below_drewN (Below.refl _ _) nd))))
   obtain ⟨W5, hW5⟩ : ∃ W5, (W3.drewN nd).drew = W5 := ⟨_, rfl⟩
   have hb5 : Below w.heap.size w W5 := by rw [← hW5]; exact below_drew1 HB4.out
   have hx5 : W5.heap[w.heap.size]? = some (.cells #[.int .i64 f0, .int .u8 f1, .string f2, .int .i64 f3] 47 (0, 0)) := by rw [← hW5]; exact HX4.out
   have HB5 := Lib.hid hb5
   have HX5 := Lib.hid hx5
   have hQ1 : stepR (opensR r f1) ⟨t, r⟩ ⟨f0, f1, f2, f3⟩ = if 2000 ≤ t.length then (f3, 4) else if 0 < lastP nB r then (if 60 < wrap64 (((rd_T159 r (lastP nB r)).f5.size : Int) + f2.size) then (f3, 4) else (0, 0)) else (0, 0) := by
    unfold stepR
    rw [if_pos h1]
    show (if textsR r = true then _ else _) = _
    rw [htx, if_pos rfl]
   rw [HQ.out] at hQ1
   have HQ1 := Lib.hid hQ1
   have hlr := lastR_range' nB r
   obtain ⟨L, hL⟩ : ∃ L, lastP nB r = L := ⟨_, rfl⟩
   rw [hL] at HQ1 hlr
   simp only [hL]
   clear hb5 hx5 hQ1 x0 x1 x2 x3 hL HB2 HX HYZ HTX HLA HOP HMA HIN HQ HY HB4 HX4 HB3 HX3
   by_cases g1 : 2000 ≤ t.length
   ·have g1' : 2000 ≤ (t.length : Int) := by omega
    refine Go.Det.region_all (fun W => W = W5) (by kernel_rfl) (by kernel_rfl) hW5 ?_
    repeat
     apply Go.Det.seqW_cons
     focus
      intro W hS
      obtain rfl : W = W5 := hS
      obtain ⟨x0, x1, x2, x3⟩ := cellsX HX5.out
      skip
      go_wp2
      exact Go.Det.AtEnd.mk rfl
    refine Go.Det.seqW_nil ?_
    intro W hS
    obtain rfl : W = W5 := hS
    obtain ⟨x0, x1, x2, x3⟩ := cellsX HX5.out
    simp only [Exit.then]
    go_wp2
    go_ret2
    exact ⟨by rw [HQ1.out, if_pos g1]; rfl, HB5.out⟩
   ·rw [if_neg g1] at HQ1
    have d1 : (t.length : Int) < 2000 := by omega
    have d1' : t.length < 2000 := by omega
    clear g1
    by_cases g2 : 0 < L
    ·obtain ⟨ad2, e2, p0, p1, p2, p3, p4, p5⟩ := at_T159 (Kd.C_below HA.out HB5.out) L (by omega) (by omega)
     obtain rfl := Option.some.inj e2
     clear e2
     have g4 : L < (r.length : Int) := by omega
     have g5 : 0 ≤ L := by omega
     obtain ⟨ln, rfl⟩ : ∃ ln : Nat, L = (ln : Int) := ⟨L.toNat, by omega⟩
     rw [if_pos g2] at HQ1
     have d2 : 0 < (ln : Int) := g2
     have d2' : 0 < ln := by omega
     clear g2 g5
     simp only [Int.toNat_natCast] at p0 p1 p2 p3 p4 p5
     obtain ⟨z, hz⟩ : ∃ z, (rd_T159 r (ln : Int)).f5 = z := ⟨_, rfl⟩
     rw [hz] at p5 HQ1
     have HP := Lib.hid p5
     clear p0 p1 p2 p3 p4 p5 hz hlr
     by_cases g3 : 60 < wrap64 ((z.size : Int) + f2.size)
     ·rw [if_pos g3] at HQ1
      have d3 := decide_eq_true (show 60 < wrap64 ((z.size : Int) + f2.size) from g3)
      clear g3
      refine Go.Det.region_all (fun W => W = W5) (by kernel_rfl) (by kernel_rfl) hW5 ?_
      repeat
       apply Go.Det.seqW_cons
       focus
        intro W hS
        obtain rfl : W = W5 := hS
        obtain ⟨x0, x1, x2, x3⟩ := cellsX HX5.out
        have p5 := HP.out
        go_wp2
        exact Go.Det.AtEnd.mk rfl
      refine Go.Det.seqW_nil ?_
      intro W hS
      obtain rfl : W = W5 := hS
      obtain ⟨x0, x1, x2, x3⟩ := cellsX HX5.out
      simp only [Exit.then]
      go_wp2
      go_ret2
      exact ⟨by rw [HQ1.out]; rfl, HB5.out⟩
     ·rw [if_neg g3] at HQ1
      have d3 : wrap64 ((z.size : Int) + f2.size) ≤ 60 := Int.not_lt.mp g3
      clear g3
      refine Go.Det.region_all (fun W => W = W5) (by kernel_rfl) (by kernel_rfl) hW5 ?_
      repeat
       apply Go.Det.seqW_cons
       focus
        intro W hS
        obtain rfl : W = W5 := hS
        obtain ⟨x0, x1, x2, x3⟩ := cellsX HX5.out
        have p5 := HP.out
        go_wp2
        exact Go.Det.AtEnd.mk rfl
      refine Go.Det.seqW_nil ?_
      intro W hS
      obtain rfl : W = W5 := hS
      obtain ⟨x0, x1, x2, x3⟩ := cellsX HX5.out
      simp only [Exit.then]
      go_wp2
      go_ret2
      exact ⟨by rw [HQ1.out]; rfl, HB5.out⟩
    ·rw [if_neg g2] at HQ1
     have d2 : L ≤ 0 := by omega
     clear g2 hlr
     refine Go.Det.region_all (fun W => W = W5) (by kernel_rfl) (by kernel_rfl) hW5 ?_
     repeat
      apply Go.Det.seqW_cons
      focus
       intro W hS
       obtain rfl : W = W5 := hS
       obtain ⟨x0, x1, x2, x3⟩ := cellsX HX5.out
       skip
       go_wp2
       exact Go.Det.AtEnd.mk rfl
     refine Go.Det.seqW_nil ?_
     intro W hS
     obtain rfl : W = W5 := hS
     obtain ⟨x0, x1, x2, x3⟩ := cellsX HX5.out
     simp only [Exit.then]
     go_wp2
     go_ret2
     exact ⟨by rw [HQ1.out]; rfl, HB5.out⟩
 ·have e1 : (f0 == 1) = false := beq_eq_false_iff_ne.2 h1
  by_cases h2 : f0 = 2
  ·have e2 : (f0 == 2) = true := beq_iff_eq.2 h2
   have hQ1 : stepR (opensR r f1) ⟨t, r⟩ ⟨f0, f1, f2, f3⟩ = if opensR r f1 = true then (if 32 < r.length ∨ (f1 = 108 ∧ 8 ≤ manyP 108 r) then (f3, 5) else if 2000 ≤ t.length then (f3, 4) else (0, 0)) else (f3, 2) := by
    unfold stepR
    rw [if_neg h1, if_pos h2]
   rw [HQ.out] at hQ1
   have HQ1 := Lib.hid hQ1
   clear hQ1 h1
   cases hop : opensR r f1 with
   | false =>
    rw [hop, if_neg (by decide)] at HQ1
    rw [hop] at HOP
    clear hop HQ HYZ HTX HLA HMA HIN HY
    go_wp2_with (go_at_call 138; (with_reducible refine (HOP.out _ HB2.out).mono ?_); rintro e W3 ⟨rfl, hb3⟩; have HB3 := Lib.hid (HB2.out.trans (hb3.mono HB2.out.size)); have HX3 := Lib.hid (blk_below HX.out hb3); have x3' := blk_cell HX3.out 3; simp only [List.getElem?_toArray, List.getElem?_cons_succ, List.getElem?_cons_zero] at x3'; clear hb3)
    go_ret2
    exact ⟨by rw [HQ1.out]; rfl, HB3.out⟩
   | true =>
    rw [hop, if_pos rfl] at HQ1
    rw [hop] at HOP
    clear hop HQ HYZ HTX HLA HIN HY
    obtain ⟨M, hM⟩ : ∃ M, manyP 108 r = M := ⟨_, rfl⟩
    rw [hM] at HQ1 HMA
    clear hM
    by_cases g1 : 32 < r.length
    ·have d1 : 32 < (r.length : Int) := by omega
     rw [if_pos (.inl g1)] at HQ1
     go_wp2_with (go_at_call 138; (with_reducible refine (HOP.out _ HB2.out).mono ?_); rintro e W3 ⟨rfl, hb3⟩; have HB3 := Lib.hid (HB2.out.trans (hb3.mono HB2.out.size)); have HX3 := Lib.hid (blk_below HX.out hb3); have x3' := blk_cell HX3.out 3; have x1' := blk_cell HX3.out 1; simp only [List.getElem?_toArray, List.getElem?_cons_succ, List.getElem?_cons_zero] at x3' x1'; clear hb3)
     go_ret2
     exact ⟨by rw [HQ1.out]; rfl, HB3.out⟩
    ·have d1 : (r.length : Int) ≤ 32 := by omega
     have d1' : r.length ≤ 32 := by omega
     clear hnl
     by_cases g3 : f1 = 108
     ·subst g3
      by_cases g4 : 8 ≤ M
      ·rw [if_pos (.inr ⟨rfl, g4⟩)] at HQ1
       have d4 : 8 ≤ (M : Int) := by omega
       clear g1
       go_wp2_with (first | (go_at_call 138; (with_reducible refine (HOP.out _ HB2.out).mono ?_); rintro e W3 ⟨rfl, hb3⟩; have HB3 := Lib.hid (HB2.out.trans (hb3.mono HB2.out.size)); have HX3 := Lib.hid (blk_below HX.out hb3); have x3' := blk_cell HX3.out 3; have x1' := blk_cell HX3.out 1; simp only [List.getElem?_toArray, List.getElem?_cons_succ, List.getElem?_cons_zero] at x3' x1'; clear hb3) | (go_at_call 139; (with_reducible refine (HMA.out _ HB3.out).mono ?_); rintro e W4 ⟨rfl, ⟨⟨nd, rfl⟩⟩⟩; have HB4 := Lib.hid (pw_below_drewN HB3.out nd); have x3'' := blk_cell (blk_below HX3.out (pw_below_drewN (Below.refl _ _) nd)) 3; simp only [List.getElem?_toArray, List.getElem?_cons_succ, List.getElem?_cons_zero] at x3''))
       go_ret2
       exact ⟨by rw [HQ1.out]; rfl, HB4.out⟩
      ·rw [if_neg (fun h => h.elim g1 fun h => g4 h.2)] at HQ1
       have d4 : (M : Int) < 8 := by omega
       have d4' : M < 8 := by omega
       clear g1 g4
       by_cases g2 : 2000 ≤ t.length
       ·have d2 : 2000 ≤ (t.length : Int) := by omega
        rw [if_pos g2] at HQ1
        go_wp2_with (first | (go_at_call 138; (with_reducible refine (HOP.out _ HB2.out).mono ?_); rintro e W3 ⟨rfl, hb3⟩; have HB3 := Lib.hid (HB2.out.trans (hb3.mono HB2.out.size)); have HX3 := Lib.hid (blk_below HX.out hb3); have x3' := blk_cell HX3.out 3; have x1' := blk_cell HX3.out 1; simp only [List.getElem?_toArray, List.getElem?_cons_succ, List.getElem?_cons_zero] at x3' x1'; clear hb3) | (go_at_call 139; (with_reducible refine (HMA.out _ HB3.out).mono ?_); rintro e W4 ⟨rfl, ⟨⟨nd, rfl⟩⟩⟩; have HB4 := Lib.hid (pw_below_drewN HB3.out nd); have x3'' := blk_cell (blk_below HX3.out (pw_below_drewN (Below.refl _ _) nd)) 3; simp only [List.getElem?_toArray, List.getElem?_cons_succ, List.getElem?_cons_zero] at x3''))
        go_ret2
        exact ⟨by rw [HQ1.out]; rfl, HB4.out⟩
       ·have d2 : (t.length : Int) < 2000 := by omega
        have d2' : t.length < 2000 := by omega
        rw [if_neg g2] at HQ1
        clear g2
        go_wp2_with (first | (go_at_call 138; (with_reducible refine (HOP.out _ HB2.out).mono ?_); rintro e W3 ⟨rfl, hb3⟩; have HB3 := Lib.hid (HB2.out.trans (hb3.mono HB2.out.size)); have HX3 := Lib.hid (blk_below HX.out hb3); have x3' := blk_cell HX3.out 3; have x1' := blk_cell HX3.out 1; simp only [List.getElem?_toArray, List.getElem?_cons_succ, List.getElem?_cons_zero] at x3' x1'; clear hb3) | (go_at_call 139; (with_reducible refine (HMA.out _ HB3.out).mono ?_); rintro e W4 ⟨rfl, ⟨⟨nd, rfl⟩⟩⟩; have HB4 := Lib.hid (pw_below_drewN HB3.out nd); have x3'' := blk_cell (blk_below HX3.out (pw_below_drewN (Below.refl _ _) nd)) 3; simp only [List.getElem?_toArray, List.getElem?_cons_succ, List.getElem?_cons_zero] at x3''))
        go_ret2
        exact ⟨by rw [HQ1.out]; rfl, HB4.out⟩
     ·have d3 : (f1 == 108) = false := beq_eq_false_iff_ne.2 g3
      rw [if_neg (fun h => h.elim g1 fun h => g3 h.1)] at HQ1
      clear g1 g3
      by_cases g2 : 2000 ≤ t.length
      ·have d2 : 2000 ≤ (t.length : Int) := by omega
       rw [if_pos g2] at HQ1
       go_wp2_with (go_at_call 138; (with_reducible refine (HOP.out _ HB2.out).mono ?_); rintro e W3 ⟨rfl, hb3⟩; have HB3 := Lib.hid (HB2.out.trans (hb3.mono HB2.out.size)); have HX3 := Lib.hid (blk_below HX.out hb3); have x3' := blk_cell HX3.out 3; have x1' := blk_cell HX3.out 1; simp only [List.getElem?_toArray, List.getElem?_cons_succ, List.getElem?_cons_zero] at x3' x1'; clear hb3)
       go_ret2
       exact ⟨by rw [HQ1.out]; rfl, HB3.out⟩
      ·have d2 : (t.length : Int) < 2000 := by omega
       have d2' : t.length < 2000 := by omega
       rw [if_neg g2] at HQ1
       clear g2
       go_wp2_with (go_at_call 138; (with_reducible refine (HOP.out _ HB2.out).mono ?_); rintro e W3 ⟨rfl, hb3⟩; have HB3 := Lib.hid (HB2.out.trans (hb3.mono HB2.out.size)); have HX3 := Lib.hid (blk_below HX.out hb3); have x3' := blk_cell HX3.out 3; have x1' := blk_cell HX3.out 1; simp only [List.getElem?_toArray, List.getElem?_cons_succ, List.getElem?_cons_zero] at x3' x1'; clear hb3)
       go_ret2
       exact ⟨by rw [HQ1.out]; rfl, HB3.out⟩
  ·have e2 : (f0 == 2) = false := beq_eq_false_iff_ne.2 h2
   have hQ1 : stepR (opensR r f1) ⟨t, r⟩ ⟨f0, f1, f2, f3⟩ = if r.length = 1 ∨ (inB y0 ltrB = true ∧ y1.size = 0) then (f3, 2) else if y0 = 114 then (if 0 < (rd_T159 r ((r.length - 2 : Nat) : Int)).f4 then (if (rd_T159 r ((r.length - 2 : Nat) : Int)).f4 = y1.size then (0, 0) else (f3, 2)) else (0, 0)) else (0, 0) := by
    unfold stepR
    rw [if_neg h1, if_neg h2]
    simp only [HY.out]
   rw [HQ.out] at hQ1
   have HQ1 := Lib.hid hQ1
   obtain ⟨y0c, y1c⟩ := cellsY HYZ.out
   clear hQ1 h1 h2 HQ HTX HLA HMA HOP HY
   by_cases g1 : r.length = 1
   ·have d1 : ((r.length : Int) == 1) = true := beq_iff_eq.2 (by omega)
    rw [if_pos (.inl g1)] at HQ1
    clear g1
    go_wp2
    go_ret2
    exact ⟨by rw [HQ1.out]; rfl, HB2.out⟩
   ·have d1 : ((r.length : Int) == 1) = false := beq_eq_false_iff_ne.2 (by omega)
    obtain ⟨m, hm⟩ : ∃ m, r.length = m + 2 := ⟨r.length - 2, by omega⟩
    obtain ⟨b, hb⟩ : ∃ b, inB y0 ltrB = b := ⟨_, rfl⟩
    rw [hb] at HQ1 HIN
    clear hb
    by_cases gB : b = true ∧ y1.size = 0
    ·obtain ⟨rfl, g2⟩ := gB
     rw [if_pos (.inr ⟨rfl, g2⟩)] at HQ1
     have d2 : (y1.toList == ([] : List UInt8)) = true := by rw [empty_list]; exact decide_eq_true g2
     have d2' : y1.toList.isEmpty = true := by rw [empty_size]; exact decide_eq_true g2
     have d2'' : y1.toList = [] := by simpa using d2'
     clear g1 g2 hm
     go_wp2_with (go_at_call 140; (with_reducible refine (HIN.out _).mono ?_); rintro e W3 ⟨rfl, ⟨⟨nd, rfl⟩⟩⟩; have HB3 := Lib.hid (pw_below_drewN HB2.out nd); have HX3 := Lib.hid (blk_below HX.out (pw_below_drewN (Below.refl _ _) nd)); have HY3 := Lib.hid (blk_below HYZ.out (pw_below_drewN (Below.refl _ _) nd)); have x3' := blk_cell HX3.out 3; have y1' := blk_cell HY3.out 1; simp only [List.getElem?_toArray, List.getElem?_cons_succ, List.getElem?_cons_zero] at x3' y1')
     go_ret2
     exact ⟨by rw [HQ1.out]; rfl, HB3.out⟩
    ·rw [if_neg (fun h => h.elim g1 gB)] at HQ1
     have hpre : (b = false) ∨ (b = true ∧ (y1.toList == ([] : List UInt8)) = false ∧ y1.toList.isEmpty = false) := by
      cases b with
      | false => exact .inl rfl
      | true =>
       refine .inr ⟨rfl, ?_, ?_⟩
       ·rw [empty_list]; exact decide_eq_false fun h => gB ⟨rfl, h⟩
       ·rw [empty_size]; exact decide_eq_false fun h => gB ⟨rfl, h⟩
     have HM := Lib.hid hm
     have hm1 : (r.length : Int) - 2 = (m : Int) := by omega
     have hm2 : wrap64 ((r.length : Int) - 2) = (m : Int) := by rw [hm1]; exact IntWalk.wrap64_in _ ⟨by omega, by omega⟩
     have hm3 : (m : Int) < (r.length : Int) := by omega
     rw [show r.length - 2 = m from by omega] at HQ1
     clear g1 gB hm
     rcases hpre with rfl | ⟨rfl, d2, d2'⟩
     case' inl => go_upto_region 24 with (go_at_call 140; (with_reducible refine (HIN.out _).mono ?_); rintro e W3 ⟨rfl, ⟨⟨nd, rfl⟩⟩⟩; have HB3 := Lib.hid (pw_below_drewN HB2.out nd); have HX3 := Lib.hid (blk_below HX.out (pw_below_drewN (Below.refl _ _) nd)); have HY3 := Lib.hid (blk_below HYZ.out (pw_below_drewN (Below.refl _ _) nd)); have x3' := blk_cell HX3.out 3; have y1' := blk_cell HY3.out 1; simp only [List.getElem?_toArray, List.getElem?_cons_succ, List.getElem?_cons_zero] at x3' y1')
     case' inr => go_upto_region 24 with (go_at_call 140; (with_reducible refine (HIN.out _).mono ?_); rintro e W3 ⟨rfl, ⟨⟨nd, rfl⟩⟩⟩; have HB3 := Lib.hid (pw_below_drewN HB2.out nd); have HX3 := Lib.hid (blk_below HX.out (pw_below_drewN (Below.refl _ _) nd)); have HY3 := Lib.hid (blk_below HYZ.out (pw_below_drewN (Below.refl _ _) nd)); have x3' := blk_cell HX3.out 3; have y1' := blk_cell HY3.out 1; simp only [List.getElem?_toArray, List.getElem?_cons_succ, List.getElem?_cons_zero] at x3' y1')
     all_goals
      obtain ⟨W5, hW5⟩ : ∃ W5, (W2.drewN nd).drew = W5 := ⟨_, rfl⟩
      have hb5 : Below w.heap.size w W5 := by rw [← hW5]; exact below_drew1 HB3.out
      have hx5 : W5.heap[w.heap.size]? = some (.cells #[.int .i64 f0, .int .u8 f1, .string f2, .int .i64 f3] 47 (0, 0)) := by rw [← hW5]; exact HX3.out
      have hy5 : W5.heap[w.heap.size + 1]? = some (.cells #[.int .u8 y0, .string y1, .int .i64 y2, .int .i64 y3, .int .i64 y4, .string y5] 159 (0, 0)) := by rw [← hW5]; exact HY3.out
      have HB5 := Lib.hid hb5
      have HX5 := Lib.hid hx5
      have HY5 := Lib.hid hy5
      obtain ⟨ad2, e3, p0, p1, p2, p3, p4, p5⟩ := at_T159 (Kd.C_below HA.out HB5.out) (m : Int) (by omega) hm3
      obtain rfl := Option.some.inj e3
      clear e3
      simp only [Int.toNat_natCast] at p4
      obtain ⟨z, hz⟩ : ∃ z, (rd_T159 r (m : Int)).f4 = z := ⟨_, rfl⟩
      rw [hz] at p4 HQ1
      have HP := Lib.hid p4
      clear p0 p1 p2 p3 p4 p5 hz hb5 hx5 hy5 x0 x1 x2 x3 x3' y1' y0c y1c HB3 HX3 HY3 HB2 HX HYZ HIN HM
      by_cases g3 : y0 = 114
      ·have d3 : (y0 == 114) = true := beq_iff_eq.2 g3
       rw [if_pos g3] at HQ1
       clear g3
       by_cases g4 : 0 < z
       ·rw [if_pos g4] at HQ1
        by_cases g5 : z = y1.size
        ·rw [if_pos g5] at HQ1
         have d5 : (z != (y1.size : Int)) = false := by rw [g5]; simp
         clear g5
         refine Go.Det.region_all (fun W => W = W5) (by kernel_rfl) (by kernel_rfl) hW5 ?_
         repeat
          apply Go.Det.seqW_cons
          focus
           intro W hS
           obtain rfl : W = W5 := hS
           obtain ⟨x0, x1, x2, x3⟩ := cellsX HX5.out
           obtain ⟨y0', y1'⟩ := cellsY HY5.out
           have p4 := HP.out
           go_wp2
           exact Go.Det.AtEnd.mk rfl
         refine Go.Det.seqW_nil ?_
         intro W hS
         obtain rfl : W = W5 := hS
         obtain ⟨x0, x1, x2, x3⟩ := cellsX HX5.out
         simp only [Exit.then]
         go_wp2
         go_ret2
         exact ⟨by rw [HQ1.out]; rfl, HB5.out⟩
        ·rw [if_neg g5] at HQ1
         have d5 : (z != (y1.size : Int)) = true := bne_iff_ne.2 g5
         clear g5
         refine Go.Det.region_all (fun W => W = W5) (by kernel_rfl) (by kernel_rfl) hW5 ?_
         repeat
          apply Go.Det.seqW_cons
          focus
           intro W hS
           obtain rfl : W = W5 := hS
           obtain ⟨x0, x1, x2, x3⟩ := cellsX HX5.out
           obtain ⟨y0', y1'⟩ := cellsY HY5.out
           have p4 := HP.out
           go_wp2
           exact Go.Det.AtEnd.mk rfl
         refine Go.Det.seqW_nil ?_
         intro W hS
         obtain rfl : W = W5 := hS
         obtain ⟨x0, x1, x2, x3⟩ := cellsX HX5.out
         simp only [Exit.then]
         go_wp2
         go_ret2
         exact ⟨by rw [HQ1.out]; rfl, HB5.out⟩
       ·rw [if_neg g4] at HQ1
        have d4 : z ≤ 0 := by omega
        clear g4
        refine Go.Det.region_all (fun W => W = W5) (by kernel_rfl) (by kernel_rfl) hW5 ?_
        repeat
         apply Go.Det.seqW_cons
         focus
          intro W hS
          obtain rfl : W = W5 := hS
          obtain ⟨x0, x1, x2, x3⟩ := cellsX HX5.out
          obtain ⟨y0', y1'⟩ := cellsY HY5.out
          have p4 := HP.out
          go_wp2
          exact Go.Det.AtEnd.mk rfl
        refine Go.Det.seqW_nil ?_
        intro W hS
        obtain rfl : W = W5 := hS
        obtain ⟨x0, x1, x2, x3⟩ := cellsX HX5.out
        simp only [Exit.then]
        go_wp2
        go_ret2
        exact ⟨by rw [HQ1.out]; rfl, HB5.out⟩
      ·have d3 : (y0 == 114) = false := beq_eq_false_iff_ne.2 g3
       rw [if_neg g3] at HQ1
       clear g3
       refine Go.Det.region_all (fun W => W = W5) (by kernel_rfl) (by kernel_rfl) hW5 ?_
       repeat
        apply Go.Det.seqW_cons
        focus
         intro W hS
         obtain rfl : W = W5 := hS
         obtain ⟨x0, x1, x2, x3⟩ := cellsX HX5.out
         obtain ⟨y0', y1'⟩ := cellsY HY5.out
         have p4 := HP.out
         go_wp2
         exact Go.Det.AtEnd.mk rfl
       refine Go.Det.seqW_nil ?_
       intro W hS
       obtain rfl : W = W5 := hS
       obtain ⟨x0, x1, x2, x3⟩ := cellsX HX5.out
       simp only [Exit.then]
       go_wp2
       go_ret2
       exact ⟨by rw [HQ1.out]; rfl, HB5.out⟩
def stylusref04_Step.f (k : Nat) (l0 : List S56) (l1 : List S159) (a0 a1 : Int) (a2 : ByteArray) (a3 : Int) : Option (Int × Int) :=
 if 0 < l1.length ∧ l1.length ≤ 800000 ∧ (topR l1).f1.size ≤ 800000 ∧ a2.size ≤ 1000000 then some (stepR (opensR l1 a1) ⟨l0, l1⟩ ⟨a0, a1, a2, a3⟩) else none
theorem stylusref04_Step.mono : ∀ l0 l1 a0 a1 a2 a3 k, LeO (stylusref04_Step.f k l0 l1 a0 a1 a2 a3) (stylusref04_Step.f (k + 1) l0 l1 a0 a1 a2 a3) := fun _ _ _ _ _ _ _ => LeO.refl _
theorem stylusref04_Step.calls (k : Nat) (A0 : Option Addr) (c0 : Nat) (l0 : List (S56)) (A1 : Option Addr) (c1 : Nat) (l1 : List (S159)) (a2_0 : Int) (a2_1 : Int) (a2_2 : ByteArray) (a2_3 : Int) (r1 : Int) (r2 : Int) (w : World) (hr0 : Kd.C k56 w A0 l0.length l0) (hc0 : l0.length ≤ c0) (hr1 : Kd.C k159 w A1 l1.length l1) (hc1 : l1.length ≤ c1) (h : stylusref04_Step.f k l0 l1 a2_0 a2_1 a2_2 a2_3 = some (r1, r2)) :
  Calls Try.prog 96 #[.slice A0 l0.length c0, .slice A1 l1.length c1, .agg #[.int .i64 a2_0, .int .u8 a2_1, .string a2_2, .int .i64 a2_3]] w fun e w' => e = .returned (.tuple #[.int .i64 r1, .int .i64 r2]) ∧ Below w.heap.size w w' := by
 unfold stylusref04_Step.f at h
 by_cases hs : 0 < l1.length ∧ l1.length ≤ 800000 ∧ (topR l1).f1.size ≤ 800000 ∧ a2_2.size ≤ 1000000
 ·rw [if_pos hs] at h
  have h1 := Option.some.inj h
  have := step04_calls A0 c0 l0 A1 c1 l1 a2_0 a2_1 a2_2 a2_3 w hr1 hc1 hs.1 hs.2.1 hs.2.2.1 hs.2.2.2
  rw [h1] at this
  exact this
 ·rw [if_neg hs] at h
  cases h
theorem step_f (u : RSt) (x : S47) (hr : u.r.length ≤ 800000) (h0 : 0 < u.r.length) (hk : (topR u.r).f1.size ≤ 800000) (hx : x.f2.size ≤ 1000000) (k : Nat) : stylusref04_Step.f k u.t u.r x.f0 x.f1 x.f2 x.f3 = some (stepR (opensR u.r x.f1) u x) := by
 unfold stylusref04_Step.f
 rw [if_pos ⟨h0, hr, hk, hx⟩]
end Go.Proofs.Ythcmfjpheanphaa.Pr
namespace Go.Proofs.Ythcmfjpheanphaa.Pr
open Go.RowKit Go.Proofs.YthcmfjpheanphaaW.PrintWords Go.Proofs.YthcmfjpheanphaaW.PrintLast Go.Proofs.YthcmfjpheanphaaW.PrintMore
attribute [local go_sem] max2_int min2_int max_two min_two max_three min_three max_four min_four
def stylusref04_Parse.l0 : Nat → ByteArray → List (S47) → Int → Option ((List (S56)) × Int × Int)
 | 0, _, _, _ => none
 | k + 1, x0, x5, x8 => if x8 < (x5.length : Int) then (if 0 ≤ x8 then (if x8 ≤ (x5.length : Int) then ((stylusref04_Read.f (x5.take (x8 : Int).toNat)).bind fun bt165 => ((stylusref04_Step.f k bt165.1 bt165.2 ((rd_T47 x5 x8).f0) ((rd_T47 x5 x8).f1) ((rd_T47 x5 x8).f2) ((rd_T47 x5 x8).f3)).bind fun bt172 => (if bt172.2 = 0 then (stylusref04_Parse.l0 k x0 x5 (wrap64 (x8 + 1))) else (some (([] : List (S56)), bt172.1, bt172.2))))) else (none)) else (none)) else ((stylusref04_Read.f x5).bind fun bt155 => (if (bt155.2.length : Int) > 1 then (some (([] : List (S56)), (x0.size : Int), 2)) else (some (bt155.1, 0, 0))))
def stylusref04_Parse.f (k : Nat) (a0 : ByteArray) : Option ((List (S56)) × Int × Int) := (stylusref03_Of.f k a0).bind fun bt150 => (if bt150.2.2 = 0 then (stylusref04_Parse.l0 k a0 bt150.1 0) else (some (([] : List (S56)), bt150.2.1, bt150.2.2)))
theorem stylusref04_Parse.mono_l : ∀ k, (∀ y0 y1 y2, LeO (stylusref04_Parse.l0 k y0 y1 y2) (stylusref04_Parse.l0 (k + 1) y0 y1 y2))
 | 0 => fun _ _ _ r h => by simp [stylusref04_Parse.l0] at h
 | k + 1 => by
  have ih0 := stylusref04_Parse.mono_l k
  ·intro y0 y1 y2
   unfold stylusref04_Parse.l0
   repeat' first
   | (with_reducible exact ih0 _ _ _)
   | (with_reducible exact stylusref03_Of.mono _ _)
   | (with_reducible exact stylusref04_Step.mono _ _ _ _ _ _ _)
   | (with_reducible exact LeO.refl _)
   | (with_reducible exact LeO.none _)
   | (with_reducible refine LeO.ite ?_ ?_)
   | (with_reducible refine LeO.bind ?_ (fun _ => ?_))
   | exact ih0 _ _ _
   | exact stylusref03_Of.mono _ _
   | exact stylusref04_Step.mono _ _ _ _ _ _ _
   | exact LeO.none _
   | refine LeO.ite ?_ ?_
   | refine LeO.bind ?_ (fun _ => ?_)
theorem stylusref04_Parse.mono : ∀ a0 k, LeO (stylusref04_Parse.f k a0) (stylusref04_Parse.f (k + 1) a0) := by
 intro a0 k
 have ih0 := stylusref04_Parse.mono_l k
 unfold stylusref04_Parse.f
 repeat' first
   | (with_reducible exact ih0 _ _ _)
   | (with_reducible exact stylusref03_Of.mono _ _)
   | (with_reducible exact stylusref04_Step.mono _ _ _ _ _ _ _)
   | (with_reducible exact LeO.refl _)
   | (with_reducible exact LeO.none _)
   | (with_reducible refine LeO.ite ?_ ?_)
   | (with_reducible refine LeO.bind ?_ (fun _ => ?_))
   | exact ih0 _ _ _
   | exact stylusref03_Of.mono _ _
   | exact stylusref04_Step.mono _ _ _ _ _ _ _
   | exact LeO.none _
   | refine LeO.ite ?_ ?_
   | refine LeO.bind ?_ (fun _ => ?_)
end Go.Proofs.Ythcmfjpheanphaa.Pr
namespace Go.Proofs.Ythcmfjpheanphaa.Pr
open Go.RowKit Go.Proofs.Ythcmfjpheanphaa.Pure Go.Proofs.YthcmfjpheanphaaW.PrintWords
theorem readP_snoc : ∀ (l : List S47) (u : RSt) (x : S47), readP u (l ++ [x]) = (readP u l).bind fun v => rstep v x
 | [], u, x => by
  simp only [List.nil_append, readP, Option.bind_some]
  cases rstep u x <;> rfl
 | y :: l, u, x => by
  simp only [List.cons_append, readP]
  cases rstep u y with
  | none => rfl
  | some v => exact readP_snoc l v x
theorem take_snoc (l : List S47) (i : Nat) (hi : i < l.length) : l.take (i + 1) = l.take i ++ [rd_T47 l i] := by
 unfold rd_T47
 rw [List.take_add_one, List.getD_eq_getElem?_getD, Int.toNat_natCast, List.getElem?_eq_getElem hi]
 rfl
theorem drop_rd47 (l : List S47) (i : Nat) (hi : i < l.length) : l.drop i = rd_T47 l i :: l.drop (i + 1) := by
 unfold rd_T47
 rw [List.drop_eq_getElem_cons hi, List.getD_eq_getElem?_getD, Int.toNat_natCast, List.getElem?_eq_getElem hi]
 rfl
theorem rd47_mem (l : List S47) (i : Nat) (hi : i < l.length) : rd_T47 l i ∈ l := by
 unfold rd_T47
 rw [List.getD_eq_getElem?_getD, Int.toNat_natCast, List.getElem?_eq_getElem hi]
 exact List.getElem_mem hi
theorem read_f (l : List S47) (hl : l.length ≤ 800000) (hx : ∀ x ∈ l, LexF x) (u : RSt) (h : readP read0 l = some u) : stylusref04_Read.f l = some (u.t, u.r) := by
 unfold stylusref04_Read.f
 rw [if_pos, h]
 ·rfl
 ·refine ⟨hl, ?_⟩
  rw [List.all_eq_true]
  intro x hm
  obtain ⟨_, a, b, c, _⟩ := hx x hm
  simp [a, b, c]
theorem topR_mem {u : RSt} (h : 0 < u.r.length) : topR u.r ∈ u.r := by
 unfold topR
 rw [rd_at, List.getD_eq_getElem?_getD, List.getElem?_eq_getElem (show u.r.length - 1 < u.r.length by omega)]
 exact List.getElem_mem _
theorem LexF.inOk {x : S47} (h : LexF x) : InOk x := ⟨h.2.2.2.1, h.2.1, h.2.2.1⟩
theorem stepOf {n : Nat} {s : Bld} {u : RSt} (h : Rel n s u) {i : Nat} (hb : RB u i) (hi : i ≤ 700000) (x : S47) (hx : LexF x) (k : Nat) (hk : 3000000 ≤ k) :
  stylusref04_Step.f k u.t u.r x.f0 x.f1 x.f2 x.f3 = some (stepR (opensR u.r x.f1) u x) := by
 have h1 := hb.row
 have h2 := (hb.ops _ (topR_mem hb.pos)).a
 exact step_f u x (by omega) hb.pos (by omega) hx.2.2.2.1 k
end Go.Proofs.Ythcmfjpheanphaa.Pr
namespace Go.Proofs.Ythcmfjpheanphaa.Pr
open Go.RowKit Go.Proofs.YthcmfjpheanphaaW.PrintWords
theorem sizedT_all (t : List S56) : ∀ (n a e : Nat), e - a ≤ n → sizedT t a e = true → ∀ i, a ≤ i → i < e → 1 ≤ (rd_T56 t i).f3 ∧ (rd_T56 t i).f3 ≤ (e : Int) - i
 | 0, a, e, h, _, i, h1, h2 => by omega
 | n + 1, a, e, h, hs, i, h1, h2 => by
  rw [sizedT_step t a e (by omega)] at hs
  by_cases hc : 1 ≤ (rd_T56 t a).f3 ∧ (rd_T56 t a).f3 ≤ (e : Int) - a
  ·rw [if_pos hc, Bool.and_eq_true] at hs
   by_cases e1 : i = a
   ·subst e1; exact hc
   ·by_cases e2 : i < a + (rd_T56 t a).f3.toNat
    ·have := sizedT_all t n (a + 1) _ (by omega) hs.1 i (by omega) e2
     exact ⟨this.1, by omega⟩
    ·exact sizedT_all t n _ e (by omega) hs.2 i (by omega) h2
  ·rw [if_neg hc] at hs; cases hs
theorem closeE_mem {P : S47 → Prop} (hs : P shutX) : ∀ (d : Nat) (o : List S47) (e : List Int) (i : Int), (∀ x ∈ o, P x) → ∀ x ∈ (closeE d o e i).1, P x
 | 0, o, e, i, h => h
 | d + 1, o, e, i, h => by
  simp only [closeE]
  split
  ·refine closeE_mem hs d _ _ i fun x hx => ?_
   rcases List.mem_append.1 hx with hx | hx
   ·exact h x hx
   ·rw [List.mem_singleton.1 hx]; exact hs
  ·exact h
theorem evRun_mem {P : S47 → Prop} (hs : P shutX) : ∀ (l : List S56) (i : Nat) (s : List S47 × List Int), (∀ y ∈ l, P (nodeX y)) → (∀ x ∈ s.1, P x) → ∀ x ∈ (evRun l i s).1, P x
 | [], i, s, _, h => h
 | y :: l, i, s, hy, h => by
  refine evRun_mem hs l (i + 1) _ (fun z hz => hy z (List.mem_cons_of_mem _ hz)) fun x hx => ?_
  unfold evStep at hx
  rcases List.mem_append.1 hx with hx | hx
  ·exact closeE_mem hs _ _ _ _ h x hx
  ·rw [List.mem_singleton.1 hx]; exact hy y List.mem_cons_self
theorem events_mem {P : S47 → Prop} (hs : P shutX) (t : List S56) (h : ∀ y ∈ t, P (nodeX y)) : ∀ x ∈ eventsP t, P x := by
 intro x hx
 unfold eventsP at hx
 rcases List.mem_append.1 hx with hx | hx
 ·exact evRun_mem hs t 0 ([], []) h (by intro y hy; cases hy) x hx
 ·rw [(List.mem_replicate.1 hx).2]; exact hs
theorem evRun_len : ∀ (l : List S56) (i : Nat) (s : List S47 × List Int), (evRun l i s).1.length + (evRun l i s).2.length ≤ s.1.length + s.2.length + 2 * l.length
 | [], i, s => by simp [evRun]
 | y :: l, i, s => by
  have h1 := evRun_len l (i + 1) (evStep y i s)
  have h2 := (evStep_len y i s).1
  simp only [evRun, List.length_cons]
  omega
def checkP (t : List S56) : Int := if ((t.any fun x => !plainB x) || !sizedT t 0 t.length) = true then 2 else checkGo bld0 0 (eventsP t)
def NodesOk (t : List S56) : Prop := ∀ x ∈ t, x.f1.size ≤ 1000000 ∧ 0 ≤ x.f0 ∧ x.f0 ≤ 255
theorem rd56_of_mem {t : List S56} {x : S56} (h : x ∈ t) : ∃ i, i < t.length ∧ rd_T56 t i = x := by
 obtain ⟨i, hi, e⟩ := List.mem_iff_getElem.1 h
 refine ⟨i, hi, ?_⟩
 unfold rd_T56
 rw [Int.toNat_natCast, List.getD_eq_getElem?_getD, List.getElem?_eq_getElem hi]
 exact e
theorem check_calls (A0 : Option Addr) (c0 : Nat) (t : List S56) (w : World) (hlen : t.length ≤ 400000) (hk : NodesOk t) (hA : Kd.C k56 w A0 t.length t) (hc0 : t.length ≤ c0) :
  Calls Try.prog 57 #[.slice A0 t.length c0] w fun e w' => e = .returned (.int .i64 (checkP t)) ∧ Below w.heap.size w w' := by
 refine check_run A0 c0 t w hlen (fun x hx => (hk x hx).1) hA hc0 (2 * t.length + 2) (sizedT t 0 t.length) ?_ (4 * t.length + 5) (eventsP t) fun hs => ?_
 ·exact sized_f t (by omega) t.length 0 t.length (2 * t.length + 1) (by omega) (by omega) (by omega) (by omega)
 ·refine ⟨events_f t hlen (fun x hx => ?_) _ (Nat.le_refl _), ?_, events_mem ⟨.inr (.inr rfl), by decide, by decide, by decide, by decide, by decide⟩ t fun y hy => ?_⟩
  ·obtain ⟨i, hi, rfl⟩ := rd56_of_mem hx
   have := sizedT_all t t.length 0 t.length (by omega) hs i (by omega) hi
   omega
  ·have := evRun_len t 0 ([], [])
   unfold eventsP
   simp only [List.length_append, List.length_replicate, List.length_nil] at this ⊢
   omega
  ·obtain ⟨h1, h2, h3⟩ := hk y hy
   unfold nodeX
   split
   ·exact ⟨.inl rfl, by show (0 : Int) ≤ 0; omega, by show (0 : Int) ≤ 255; omega, h1, by show (0 : Int) ≤ 0; omega, by show (0 : Int) ≤ _; omega⟩
   ·exact ⟨.inr (.inl rfl), h2, h3, Nat.zero_le _, by show (0 : Int) ≤ 0; omega, by show (0 : Int) ≤ _; omega⟩
def evF : Nat → List S56 → Nat → Nat → List S47
 | 0, _, _, _ => []
 | n + 1, t, a, e => if a < e then (if (rd_T56 t a).f0 = 46 then nodeX (rd_T56 t a) :: evF n t (a + 1) e
   else nodeX (rd_T56 t a) :: (evF n t (a + 1) (a + (rd_T56 t a).f3.toNat) ++ shutX :: evF n t (a + (rd_T56 t a).f3.toNat) e)) else []
theorem evRun_app : ∀ (l m : List S56) (i : Nat) (s : List S47 × List Int), evRun (l ++ m) i s = evRun m (i + l.length) (evRun l i s)
 | [], m, i, s => by simp [evRun]
 | x :: l, m, i, s => by
  simp only [List.cons_append, evRun, List.length_cons]
  rw [evRun_app l m (i + 1)]
  congr 1
  omega
theorem rd_snoc (e : List Int) (v : Int) : rd (e ++ [v]) (((e ++ [v]).length : Int) - 1) = v := by
 unfold rd
 have : (((e ++ [v]).length : Int) - 1).toNat = e.length := by simp
 rw [this]
 simp
theorem closeE_due (E : List Int) (i : Int) (hE : ∀ v ∈ E, v ≠ i) : ∀ (p d : Nat) (o : List S47), p ≤ d → closeE d o (E ++ List.replicate p i) i = (o ++ List.replicate p shutX, E)
 | 0, d, o, _ => by
  simp only [List.replicate_zero, List.append_nil]
  cases d with
  | zero => rfl
  | succ d =>
   simp only [closeE]
   rw [if_neg]
   rintro ⟨h1, h2⟩
   rcases List.eq_nil_or_concat E with rfl | ⟨E', v, rfl⟩
   ·exact h1 rfl
   ·rw [List.concat_eq_append] at h2 hE
    rw [rd_snoc] at h2
    exact hE v (by simp) h2
 | p + 1, 0, o, h => by omega
 | p + 1, d + 1, o, h => by
  have hs : E ++ List.replicate (p + 1) i = (E ++ List.replicate p i) ++ [i] := by rw [List.replicate_succ', List.append_assoc]
  simp only [closeE]
  rw [hs, if_pos ⟨by simp, rd_snoc _ _⟩, List.dropLast_concat, closeE_due E i hE p d _ (by omega), List.append_assoc]
  congr 2
theorem drop_take_step (t : List S56) (a e : Nat) (h : a < e) (he : e ≤ t.length) : (t.drop a).take (e - a) = rd_T56 t a :: (t.drop (a + 1)).take (e - (a + 1)) := by
 rw [rd56_dropH t a (by omega), show e - a = (e - (a + 1)) + 1 from by omega, List.take_succ_cons]
theorem drop_take_app (t : List S56) (a b e : Nat) (h1 : a ≤ b) (h2 : b ≤ e) : (t.drop a).take (e - a) = (t.drop a).take (b - a) ++ (t.drop b).take (e - b) := by
 have : t.drop b = (t.drop a).drop (b - a) := by rw [List.drop_drop]; congr 1; omega
 rw [this, show e - a = (b - a) + (e - b) from by omega, List.take_add]
theorem evRun_F (t : List S56) (hp : ∀ x ∈ t, x.f0 = 46 → x.f3 = 1) : ∀ (n a e : Nat) (o : List S47) (E : List Int) (p : Nat), e - a ≤ n → a ≤ e → e ≤ t.length → sizedT t a e = true → (∀ v ∈ E, (e : Int) ≤ v) →
  ∃ q o', evRun ((t.drop a).take (e - a)) a (o, E ++ List.replicate p (a : Int)) = (o', E ++ List.replicate q (e : Int)) ∧ o' ++ List.replicate q shutX = o ++ List.replicate p shutX ++ evF n t a e
 | 0, a, e, o, E, p, h, hae, he, hs, hE => by
  obtain rfl : a = e := by omega
  exact ⟨p, o, by simp [evRun], by simp [evF]⟩
 | n + 1, a, e, o, E, p, h, hae, he, hs, hE => by
  by_cases hlt : a < e
  ·rw [sizedT_step t a e hlt] at hs
   by_cases hc : 1 ≤ (rd_T56 t a).f3 ∧ (rd_T56 t a).f3 ≤ (e : Int) - a
   ·rw [if_pos hc, Bool.and_eq_true] at hs
    rw [drop_take_step t a e hlt he]
    simp only [evRun, evF]
    rw [if_pos hlt]
    have hcl : closeE (E ++ List.replicate p (a : Int)).length o (E ++ List.replicate p (a : Int)) (a : Int) = (o ++ List.replicate p shutX, E) :=
     closeE_due E a (fun v hv => by have := hE v hv; omega) p _ o (by simp)
    unfold evStep
    simp only [hcl]
    by_cases h46 : (rd_T56 t a).f0 = 46
    ·rw [if_pos h46, if_pos h46]
     have h1 := hp _ (rd56_mem t a (by omega)) h46
     rw [h1] at hs
     obtain ⟨q, o', g1, g2⟩ := evRun_F t hp n (a + 1) e (o ++ List.replicate p shutX ++ [nodeX (rd_T56 t a)]) E 0 (by omega) (by omega) he hs.2 hE
     rw [List.replicate_zero, List.append_nil] at g1
     refine ⟨q, o', g1, ?_⟩
     rw [g2]
     simp
    ·rw [if_neg h46, if_neg h46]
     obtain ⟨z, hz⟩ : ∃ z : Nat, (rd_T56 t a).f3 = (z : Int) := ⟨(rd_T56 t a).f3.toNat, by omega⟩
     rw [hz] at hs hc ⊢
     simp only [Int.toNat_natCast] at hs ⊢
     have hEz : ∀ v ∈ E ++ [(a : Int) + z], ((a + z : Nat) : Int) ≤ v := by
      intro v hv
      rcases List.mem_append.1 hv with hv | hv
      ·have := hE v hv; omega
      ·rw [List.mem_singleton.1 hv]; omega
     obtain ⟨q1, o1, g1, g2⟩ := evRun_F t hp n (a + 1) (a + z) (o ++ List.replicate p shutX ++ [nodeX (rd_T56 t a)]) (E ++ [(a : Int) + z]) 0 (by omega) (by omega) (by omega) hs.1 hEz
     rw [List.replicate_zero, List.append_nil] at g1
     have hst : E ++ [(a : Int) + z] ++ List.replicate q1 ((a + z : Nat) : Int) = E ++ List.replicate (q1 + 1) ((a + z : Nat) : Int) := by
      rw [List.replicate_succ, List.append_assoc]
      congr 1
     rw [hst] at g1
     obtain ⟨q2, o2, k1, k2⟩ := evRun_F t hp n (a + z) e o1 E (q1 + 1) (by omega) (by omega) he hs.2 hE
     refine ⟨q2, o2, ?_, ?_⟩
     ·rw [drop_take_app t (a + 1) (a + z) e (by omega) (by omega), evRun_app, g1]
      have hl : ((t.drop (a + 1)).take (a + z - (a + 1))).length = a + z - (a + 1) := by
       rw [List.length_take, List.length_drop]; omega
      rw [hl, show a + 1 + (a + z - (a + 1)) = a + z from by omega]
      exact k1
     ·rw [k2, List.replicate_succ', ← List.append_assoc, g2]
      simp
   ·rw [if_neg hc] at hs; cases hs
  ·obtain rfl : a = e := by omega
   refine ⟨p, o, by simp [evRun], ?_⟩
   simp only [evF]
   rw [if_neg (by omega)]
   simp
theorem events_F (t : List S56) (hp : ∀ x ∈ t, x.f0 = 46 → x.f3 = 1) (hs : sizedT t 0 t.length = true) : eventsP t = evF t.length t 0 t.length := by
 obtain ⟨q, o', g1, g2⟩ := evRun_F t hp t.length 0 t.length [] [] 0 (by omega) (by omega) (by omega) hs (by intro v hv; cases hv)
 simp only [List.drop_zero, Nat.sub_zero, List.take_length, List.replicate_zero, List.append_nil, List.nil_append] at g1 g2
 unfold eventsP
 rw [g1]
 simp only [List.nil_append, List.length_replicate]
 exact g2
end Go.Proofs.Ythcmfjpheanphaa.Pr
namespace Go.Proofs.Ythcmfjpheanphaa.Pr
open Go.RowKit Go.Proofs.YthcmfjpheanphaaW.PrintWords Go.Proofs.YthcmfjpheanphaaW.PrintLast Go.Proofs.YthcmfjpheanphaaW.PrintMore
attribute [local go_sem] max2_int min2_int max_two min_two max_three min_three max_four min_four
mutual
def stylusref04_events.l0 : Nat → List (S56) → Int → Int → List (S47) → Option ((List (S47)) × Bool)
 | 0, _, _, _, _ => none
 | k + 1, x0, x1, x2, x8 => if x1 < x2 then (if 0 ≤ x1 then (if x1 < (x0.length : Int) then (if ((rd_T56 x0 x1).f3) < 1 then (stylusref04_events.j1 k x0 x1 x2 x8 true ((rd_T56 x0 x1).f0) ((rd_T56 x0 x1).f1) ((rd_T56 x0 x1).f2) ((rd_T56 x0 x1).f3)) else (if (wrap64 (x1 + ((rd_T56 x0 x1).f3))) > x2 then (stylusref04_events.j1 k x0 x1 x2 x8 true ((rd_T56 x0 x1).f0) ((rd_T56 x0 x1).f1) ((rd_T56 x0 x1).f2) ((rd_T56 x0 x1).f3)) else (stylusref04_events.j1 k x0 x1 x2 x8 (decide ((wrap64 (x1 + ((rd_T56 x0 x1).f3))) < x1)) ((rd_T56 x0 x1).f0) ((rd_T56 x0 x1).f1) ((rd_T56 x0 x1).f2) ((rd_T56 x0 x1).f3)))) else (none)) else (none)) else (some (x8, true))
def stylusref04_events.j1 : Nat → List (S56) → Int → Int → List (S47) → Bool → Int → ByteArray → Int → Int → Option ((List (S47)) × Bool)
 | 0, _, _, _, _, _, _, _, _, _ => none
 | k + 1, x0, x1, x2, x8, x37, x291000, x291001, x291002, x291003 => if x37 = true then (some (([] : List (S47)), false)) else (if x291000 = 46 then (if x291003 = 1 then (if x8.length < 3518437208883 then (stylusref04_events.l0 k x0 (wrap64 (x1 + x291003)) x2 (x8 ++ [(⟨1, 0, x291001, 0⟩ : S47)])) else (none)) else (some (([] : List (S47)), false))) else ((stylusref04_events.f k x0 (wrap64 (x1 + 1)) (wrap64 (x1 + x291003))).bind fun bt294 => (if bt294.2 = true then (if x8.length < 3518437208883 then ((some (x8 ++ [(⟨2, x291000, (⟨#[]⟩ : ByteArray), 0⟩ : S47)] : List (S47))).bind fun y298 => (if y298.length + bt294.1.length < 3518437208883 then ((some (y298 ++ bt294.1 : List (S47))).bind fun y301 => (if y301.length < 3518437208883 then (stylusref04_events.l0 k x0 (wrap64 (x1 + x291003)) x2 (y301 ++ [(⟨3, 0, (⟨#[]⟩ : ByteArray), 0⟩ : S47)])) else (none))) else (none))) else (none)) else (some (([] : List (S47)), false)))))
def stylusref04_events.f : Nat → List (S56) → Int → Int → Option ((List (S47)) × Bool)
 | 0, _, _, _ => none
 | k + 1, l0, a1, a2 => stylusref04_events.l0 k l0 a1 a2 ([] : List (S47))
end
theorem stylusref04_events.mono_l : ∀ k, (∀ y0 y1 y2, LeO (stylusref04_events.f k y0 y1 y2) (stylusref04_events.f (k + 1) y0 y1 y2)) ∧ (∀ y0 y1 y2 y3, LeO (stylusref04_events.l0 k y0 y1 y2 y3) (stylusref04_events.l0 (k + 1) y0 y1 y2 y3)) ∧ (∀ y0 y1 y2 y3 y4 y5 y6 y7 y8, LeO (stylusref04_events.j1 k y0 y1 y2 y3 y4 y5 y6 y7 y8) (stylusref04_events.j1 (k + 1) y0 y1 y2 y3 y4 y5 y6 y7 y8))
 | 0 => ⟨fun _ _ _ r h => by simp [stylusref04_events.f] at h, fun _ _ _ _ r h => by simp [stylusref04_events.l0] at h, fun _ _ _ _ _ _ _ _ _ r h => by simp [stylusref04_events.j1] at h⟩
 | k + 1 => by
  obtain ⟨ih0, ih1, ih2⟩ := stylusref04_events.mono_l k
  refine ⟨?_, ?_, ?_⟩
  ·intro y0 y1 y2
   unfold stylusref04_events.f
   repeat' first
   | (with_reducible exact ih0 _ _ _)
   | (with_reducible exact ih1 _ _ _ _)
   | (with_reducible exact ih2 _ _ _ _ _ _ _ _ _)
   | (with_reducible exact LeO.refl _)
   | (with_reducible exact LeO.none _)
   | (with_reducible refine LeO.ite ?_ ?_)
   | (with_reducible refine LeO.bind ?_ (fun _ => ?_))
   | exact ih0 _ _ _
   | exact ih1 _ _ _ _
   | exact ih2 _ _ _ _ _ _ _ _ _
   | exact LeO.none _
   | refine LeO.ite ?_ ?_
   | refine LeO.bind ?_ (fun _ => ?_)
  ·intro y0 y1 y2 y3
   unfold stylusref04_events.l0
   repeat' first
   | (with_reducible exact ih0 _ _ _)
   | (with_reducible exact ih1 _ _ _ _)
   | (with_reducible exact ih2 _ _ _ _ _ _ _ _ _)
   | (with_reducible exact LeO.refl _)
   | (with_reducible exact LeO.none _)
   | (with_reducible refine LeO.ite ?_ ?_)
   | (with_reducible refine LeO.bind ?_ (fun _ => ?_))
   | exact ih0 _ _ _
   | exact ih1 _ _ _ _
   | exact ih2 _ _ _ _ _ _ _ _ _
   | exact LeO.none _
   | refine LeO.ite ?_ ?_
   | refine LeO.bind ?_ (fun _ => ?_)
  ·intro y0 y1 y2 y3 y4 y5 y6 y7 y8
   unfold stylusref04_events.j1
   repeat' first
   | (with_reducible exact ih0 _ _ _)
   | (with_reducible exact ih1 _ _ _ _)
   | (with_reducible exact ih2 _ _ _ _ _ _ _ _ _)
   | (with_reducible exact LeO.refl _)
   | (with_reducible exact LeO.none _)
   | (with_reducible refine LeO.ite ?_ ?_)
   | (with_reducible refine LeO.bind ?_ (fun _ => ?_))
   | exact ih0 _ _ _
   | exact ih1 _ _ _ _
   | exact ih2 _ _ _ _ _ _ _ _ _
   | exact LeO.none _
   | refine LeO.ite ?_ ?_
   | refine LeO.bind ?_ (fun _ => ?_)
theorem stylusref04_events.mono : ∀ a0 a1 a2 k, LeO (stylusref04_events.f k a0 a1 a2) (stylusref04_events.f (k + 1) a0 a1 a2) := by
 intro a0 a1 a2 k
 obtain ⟨ih0, ih1, ih2⟩ := stylusref04_events.mono_l k
 exact ih0 a0 a1 a2
set_option maxHeartbeats 8000000 in
set_option maxRecDepth 100000 in
theorem stylusref04_events.calls (k : Nat) : ∀ (A0 : Option Addr) (c0 : Nat) (l0 : List (S56)) (a1 : Int) (a2 : Int) (r1 : List (S47)) (r2 : Bool) (w : World) (hr0 : Kd.C k56 w A0 l0.length l0) (hc0 : l0.length ≤ c0) (h : stylusref04_events.f k l0 a1 a2 = some (r1, r2)),
  Calls Try.prog 107 #[.slice A0 l0.length c0, .int .i64 a1, .int .i64 a2] w fun e w' => ∃ v0_ : Value, e = .returned (.tuple #[v0_, .bool r2]) ∧ Kd.R k47 47 w' w.heap.size (fun _ => True) v0_ r1 ∧ Below w.heap.size w w' := by
 induction k using Nat.strongRecOn with
 | _ k ih =>
 intro A0 c0 l0 a1 a2 r1 r2 w hr0 hc0 h
 cases k with
 | zero => exact absurd h (by simp [stylusref04_events.f])
 | succ k =>
 simp only [stylusref04_events.f] at h
 have hu56 := Try.underlying56
 have hu47 := Try.underlying47
 have HR0 := Aside0.mk hr0
 have HC0 := Aside0.mk hc0
 clear hr0 hc0
 have HB := Aside0.mk (Below.refl w.heap.size w)
 have H : (stylusref04_events.l0 k l0 a1 a2 ([] : List (S47))) = some (r1, r2) := h
 clear h
 have H' := Aside0.mk H
 clear H
 go_enter Try.func107, Try.ntmps107
 go_wp2
 go_loopg [1, 8] k (fun kq v1 v8 w' => ∃ (x1_1 : Int) (x8_1 : List (S47)), v1 = .int .i64 x1_1 ∧ Aside0 (stylusref04_events.l0 kq l0 x1_1 a2 x8_1 = some (r1, r2)) ∧ Aside0 (kq ≤ k) ∧ Aside0 (Kd.R k47 47 w' w.heap.size (fun _ => True) v8 x8_1) ∧ Aside0 (Below w.heap.size w w'))
 case atStart => exact ⟨(a1), (([] : List (S47))), (by first | rfl | (simp; done) | (simp [*]; done)), H', ⟨Nat.le_refl _⟩, ⟨by first | exact Kd.R_nil _ _ _ _ _ | exact Kd.N_nil _ _ _ _ _ | exact Kd.V_nil _ _ _ _ _ | exact Kd.Q_nil _ _ _ _ _ | exact Kd.S_nil _ _ _ _ _⟩, ⟨by repeat (first | (with_reducible first | exact HB.out | apply below_alloc | apply pw_below_drewN | apply below_drew1) | exact HB.out)⟩⟩
 case round =>
  clear H'
  try clear c1
  try clear p2
  obtain ⟨x1_1, x8_1, rfl, HA, HK1, HO_8, HB⟩ := hrel
  cases gk with
  | zero => exact absurd HA.out (by simp [stylusref04_events.l0])
  | succ k1 =>
   have H := HA.out
   clear HA
   simp only [stylusref04_events.l0] at H
   by_cases c4 : x1_1 < a2
   ·rw [if_pos c4] at H
    have c4b0 : decide (x1_1 < a2) = true := decide_eq_true c4
    clear c4
    by_cases c5 : 0 ≤ x1_1
    ·rw [if_pos c5] at H
     have c5b0 : decide (0 ≤ x1_1) = true := decide_eq_true c5
     clear c5
     by_cases c6 : x1_1 < (l0.length : Int)
     ·rw [if_pos c6] at H
      have c6b0 : decide (x1_1 < (l0.length : Int)) = true := decide_eq_true c6
      clear c6
      have HC7 := Aside0.mk H
      clear H
      have p289 : 0 ≤ (x1_1 : Int) := of_decide_eq_true (by first | (with_reducible assumption) | assumption)
      have q289 : x1_1 < (l0.length : Int) := of_decide_eq_true (by first | (with_reducible assumption) | assumption)
      obtain ⟨ad289, e289, hx289_0, hx289_1, hx289_2, hx289_3⟩ := at_T56 HR0.out x1_1 p289 q289
      cases e289
      replace hx289_0 := (HB.out.cell (World.block_lt_of_cell? w _ hx289_0)).trans hx289_0
      replace hx289_1 := (HB.out.cell (World.block_lt_of_cell? w _ hx289_1)).trans hx289_1
      replace hx289_2 := (HB.out.cell (World.block_lt_of_cell? w _ hx289_2)).trans hx289_2
      replace hx289_3 := (HB.out.cell (World.block_lt_of_cell? w _ hx289_3)).trans hx289_3
      replace p289 := eq_true p289
      replace q289 := eq_true q289
      go_upto_region 4 with (first | ((with_reducible refine gate_dst (N := 9) rfl ?_); refine box_event ?hg (N := 9) ?hd (cs := #[.int .u8 0, .string (⟨#[]⟩ : ByteArray), .int .i64 0, .int .i64 0]) (t := 56) ?hr ?_; (case hd => rfl); (case hg => rfl); (case hr => first | (go_simp; done) | (go_simp; rfl)); intro gb290 hg w8 hbox hb; have n0_ := Aside0.mk (Kd.R_below (by (with_reducible repeat (first | apply Kd.R_alloc | apply Kd.R_drewN | apply Kd.R_drew)); exact HO_8.out) hb); have n1_ := Aside0.mk (below_step (by repeat (first | (with_reducible first | exact HB.out | apply below_alloc | apply pw_below_drewN | apply below_drew1) | exact HB.out)) hb); have n2_ := Aside0.mk (hbox); have n3_ := Aside0.mk ((by rw [hg]; exact (below_size (by repeat (first | (with_reducible first | exact HB.out | apply below_alloc | apply pw_below_drewN | apply below_drew1) | exact HB.out))) : w.heap.size ≤ gb290)); have n4_ := Aside0.mk ((by rw [hg]; exact (below_size (by repeat (first | (with_reducible first | exact HB.out | apply below_alloc | apply pw_below_drewN | apply below_drew1) | exact HB.out))) : w.heap.size ≤ gb290)); clear HO_8; clear HB; have HO_8 := n0_; have HB := n1_; have BK290 := n2_; have GW290 := n3_; have GE290 := n4_; clear n0_ n1_ n2_ n3_ n4_; clear hb hbox hg; have hcz9_0 : w8.cell? ⟨gb290, 0, none⟩ = some (.int .u8 0) := (blk_cell BK290.out 0).trans rfl; have hcz9_1 : w8.cell? ⟨gb290, 1, none⟩ = some (.string (⟨#[]⟩ : ByteArray)) := (blk_cell BK290.out 1).trans rfl; have hcz9_2 : w8.cell? ⟨gb290, 2, none⟩ = some (.int .i64 0) := (blk_cell BK290.out 2).trans rfl; have hcz9_3 : w8.cell? ⟨gb290, 3, none⟩ = some (.int .i64 0) := (blk_cell BK290.out 3).trans rfl; have hfz9_0 := blk_frozen BK290.out 0; have hfz9_1 := blk_frozen BK290.out 1; have hfz9_2 := blk_frozen BK290.out 2; have hfz9_3 := blk_frozen BK290.out 3))
      (try simp only [Act.put, List.setIfInBounds_toArray, List.set_cons_zero, List.set_cons_succ])
      go_cut [37] (fun v37 wc => ∃ (kq : Nat) (x37_6 : Bool), v37 = .bool x37_6 ∧ Aside0 (stylusref04_events.j1 kq l0 x1_1 a2 x8_1 x37_6 ((rd_T56 l0 x1_1).f0) ((rd_T56 l0 x1_1).f1) ((rd_T56 l0 x1_1).f2) ((rd_T56 l0 x1_1).f3) = some (r1, r2)) ∧ Aside0 (kq ≤ k1) ∧ Aside0 (Kd.R k47 47 wc w.heap.size (fun _ => True) u8 x8_1) ∧ Aside0 (wc.heap[gb290]? = some (.cells #[.int .u8 ((rd_T56 l0 x1_1).f0), .string ((rd_T56 l0 x1_1).f1), .int .i64 ((rd_T56 l0 x1_1).f2), .int .i64 ((rd_T56 l0 x1_1).f3)] 56 (0, 0))) ∧ Aside0 (Below w.heap.size w wc))
      case first =>
       have H := HC7.out
       clear HC7
       by_cases c10 : ((rd_T56 l0 x1_1).f3) < 1
       ·rw [if_pos c10] at H
        have c10b0 : decide (((rd_T56 l0 x1_1).f3) < 1) = true := decide_eq_true c10
        clear c10
        (first | rw [c10b0] | (simp only [i64_w, i32_w]; rw [c10b0]) | skip)
        have H' := Aside0.mk H
        clear H
        have hcz11_0 : w8.cell? ⟨gb290, 0, none⟩ = some (.int .u8 0) := (blk_cell BK290.out 0).trans rfl
        have hcz11_1 : w8.cell? ⟨gb290, 1, none⟩ = some (.string (⟨#[]⟩ : ByteArray)) := (blk_cell BK290.out 1).trans rfl
        have hcz11_2 : w8.cell? ⟨gb290, 2, none⟩ = some (.int .i64 0) := (blk_cell BK290.out 2).trans rfl
        have hcz11_3 : w8.cell? ⟨gb290, 3, none⟩ = some (.int .i64 0) := (blk_cell BK290.out 3).trans rfl
        have hfz11_0 := blk_frozen BK290.out 0
        have hfz11_1 := blk_frozen BK290.out 1
        have hfz11_2 := blk_frozen BK290.out 2
        have hfz11_3 := blk_frozen BK290.out 3
        go_wp2
        go_meet
        case rel => exact ⟨_, (true), (by first | rfl | (simp; done) | (simp [*]; done)), H', ⟨by have := HK1.out; first | omega | exact Nat.le_refl _⟩, ⟨by (with_reducible repeat (first | apply Kd.R_alloc | apply Kd.R_drewN | apply Kd.R_drew)); exact Kd.R_mono (Kd.R_far (p := ⟨gb290, 3, none⟩) (Kd.R_far (p := ⟨gb290, 2, none⟩) (Kd.R_far (p := ⟨gb290, 1, none⟩) (Kd.R_far (p := ⟨gb290, 0, none⟩) (Kd.R_types HO_8.out BK290.out (by decide)) (fun _ hk => hk.2) (.int .u8 ((rd_T56 l0 x1_1).f0))) (fun _ hk => hk.2) (.string ((rd_T56 l0 x1_1).f1))) (fun _ hk => hk.2) (.int .i64 ((rd_T56 l0 x1_1).f2))) (fun _ hk => hk.2) (.int .i64 ((rd_T56 l0 x1_1).f3))) (fun _ hk => trivial)⟩, ⟨by (with_reducible repeat (first | refine blk_drewN ?_ _ | refine blk_drew ?_ | refine blk_alloc ?_ _)); refine blk_put (cs := #[.int .u8 ((rd_T56 l0 x1_1).f0), .string ((rd_T56 l0 x1_1).f1), .int .i64 ((rd_T56 l0 x1_1).f2), .int .i64 0]) ?_ 3 _ rfl; (with_reducible repeat (first | refine blk_drewN ?_ _ | refine blk_drew ?_ | refine blk_alloc ?_ _)); refine blk_put (cs := #[.int .u8 ((rd_T56 l0 x1_1).f0), .string ((rd_T56 l0 x1_1).f1), .int .i64 0, .int .i64 0]) ?_ 2 _ rfl; (with_reducible repeat (first | refine blk_drewN ?_ _ | refine blk_drew ?_ | refine blk_alloc ?_ _)); refine blk_put (cs := #[.int .u8 ((rd_T56 l0 x1_1).f0), .string (⟨#[]⟩ : ByteArray), .int .i64 0, .int .i64 0]) ?_ 1 _ rfl; (with_reducible repeat (first | refine blk_drewN ?_ _ | refine blk_drew ?_ | refine blk_alloc ?_ _)); refine blk_put (cs := #[.int .u8 0, .string (⟨#[]⟩ : ByteArray), .int .i64 0, .int .i64 0]) ?_ 0 _ rfl; (with_reducible repeat (first | refine blk_drewN ?_ _ | refine blk_drew ?_ | refine blk_alloc ?_ _)); exact BK290.out⟩, ⟨by repeat (first | (with_reducible first | exact HB.out | apply below_alloc | apply pw_below_drewN | apply below_drew1 | refine below_set ?_ GE290.out) | exact HB.out)⟩⟩
       ·rw [if_neg c10] at H
        have c10b0 : decide (((rd_T56 l0 x1_1).f3) < 1) = false := decide_eq_false c10
        clear c10
        (first | rw [c10b0] | (simp only [i64_w, i32_w]; rw [c10b0]) | skip)
        by_cases c12 : (wrap64 (x1_1 + ((rd_T56 l0 x1_1).f3))) > a2
        ·rw [if_pos c12] at H
         have c12b0 : decide (a2 < (wrap64 (x1_1 + ((rd_T56 l0 x1_1).f3)))) = true := decide_eq_true c12
         clear c12
         have H' := Aside0.mk H
         clear H
         have hcz13_0 : w8.cell? ⟨gb290, 0, none⟩ = some (.int .u8 0) := (blk_cell BK290.out 0).trans rfl
         have hcz13_1 : w8.cell? ⟨gb290, 1, none⟩ = some (.string (⟨#[]⟩ : ByteArray)) := (blk_cell BK290.out 1).trans rfl
         have hcz13_2 : w8.cell? ⟨gb290, 2, none⟩ = some (.int .i64 0) := (blk_cell BK290.out 2).trans rfl
         have hcz13_3 : w8.cell? ⟨gb290, 3, none⟩ = some (.int .i64 0) := (blk_cell BK290.out 3).trans rfl
         have hfz13_0 := blk_frozen BK290.out 0
         have hfz13_1 := blk_frozen BK290.out 1
         have hfz13_2 := blk_frozen BK290.out 2
         have hfz13_3 := blk_frozen BK290.out 3
         go_wp2
         go_meet
         case rel => exact ⟨_, (true), (by first | rfl | (simp; done) | (simp [*]; done)), H', ⟨by have := HK1.out; first | omega | exact Nat.le_refl _⟩, ⟨by (with_reducible repeat (first | apply Kd.R_alloc | apply Kd.R_drewN | apply Kd.R_drew)); exact Kd.R_mono (Kd.R_far (p := ⟨gb290, 3, none⟩) (Kd.R_far (p := ⟨gb290, 2, none⟩) (Kd.R_far (p := ⟨gb290, 1, none⟩) (Kd.R_far (p := ⟨gb290, 0, none⟩) (Kd.R_types HO_8.out BK290.out (by decide)) (fun _ hk => hk.2) (.int .u8 ((rd_T56 l0 x1_1).f0))) (fun _ hk => hk.2) (.string ((rd_T56 l0 x1_1).f1))) (fun _ hk => hk.2) (.int .i64 ((rd_T56 l0 x1_1).f2))) (fun _ hk => hk.2) (.int .i64 ((rd_T56 l0 x1_1).f3))) (fun _ hk => trivial)⟩, ⟨by (with_reducible repeat (first | refine blk_drewN ?_ _ | refine blk_drew ?_ | refine blk_alloc ?_ _)); refine blk_put (cs := #[.int .u8 ((rd_T56 l0 x1_1).f0), .string ((rd_T56 l0 x1_1).f1), .int .i64 ((rd_T56 l0 x1_1).f2), .int .i64 0]) ?_ 3 _ rfl; (with_reducible repeat (first | refine blk_drewN ?_ _ | refine blk_drew ?_ | refine blk_alloc ?_ _)); refine blk_put (cs := #[.int .u8 ((rd_T56 l0 x1_1).f0), .string ((rd_T56 l0 x1_1).f1), .int .i64 0, .int .i64 0]) ?_ 2 _ rfl; (with_reducible repeat (first | refine blk_drewN ?_ _ | refine blk_drew ?_ | refine blk_alloc ?_ _)); refine blk_put (cs := #[.int .u8 ((rd_T56 l0 x1_1).f0), .string (⟨#[]⟩ : ByteArray), .int .i64 0, .int .i64 0]) ?_ 1 _ rfl; (with_reducible repeat (first | refine blk_drewN ?_ _ | refine blk_drew ?_ | refine blk_alloc ?_ _)); refine blk_put (cs := #[.int .u8 0, .string (⟨#[]⟩ : ByteArray), .int .i64 0, .int .i64 0]) ?_ 0 _ rfl; (with_reducible repeat (first | refine blk_drewN ?_ _ | refine blk_drew ?_ | refine blk_alloc ?_ _)); exact BK290.out⟩, ⟨by repeat (first | (with_reducible first | exact HB.out | apply below_alloc | apply pw_below_drewN | apply below_drew1 | refine below_set ?_ GE290.out) | exact HB.out)⟩⟩
        ·rw [if_neg c12] at H
         have c12b0 : decide (a2 < (wrap64 (x1_1 + ((rd_T56 l0 x1_1).f3)))) = false := decide_eq_false c12
         clear c12
         have H' := Aside0.mk H
         clear H
         have hcz14_0 : w8.cell? ⟨gb290, 0, none⟩ = some (.int .u8 0) := (blk_cell BK290.out 0).trans rfl
         have hcz14_1 : w8.cell? ⟨gb290, 1, none⟩ = some (.string (⟨#[]⟩ : ByteArray)) := (blk_cell BK290.out 1).trans rfl
         have hcz14_2 : w8.cell? ⟨gb290, 2, none⟩ = some (.int .i64 0) := (blk_cell BK290.out 2).trans rfl
         have hcz14_3 : w8.cell? ⟨gb290, 3, none⟩ = some (.int .i64 0) := (blk_cell BK290.out 3).trans rfl
         have hfz14_0 := blk_frozen BK290.out 0
         have hfz14_1 := blk_frozen BK290.out 1
         have hfz14_2 := blk_frozen BK290.out 2
         have hfz14_3 := blk_frozen BK290.out 3
         go_wp2
         go_meet
         case rel => exact ⟨_, (decide ((wrap64 (x1_1 + ((rd_T56 l0 x1_1).f3))) < x1_1)), (by first | rfl | (simp; done) | (simp [*]; done)), H', ⟨by have := HK1.out; first | omega | exact Nat.le_refl _⟩, ⟨by (with_reducible repeat (first | apply Kd.R_alloc | apply Kd.R_drewN | apply Kd.R_drew)); exact Kd.R_mono (Kd.R_far (p := ⟨gb290, 3, none⟩) (Kd.R_far (p := ⟨gb290, 2, none⟩) (Kd.R_far (p := ⟨gb290, 1, none⟩) (Kd.R_far (p := ⟨gb290, 0, none⟩) (Kd.R_types HO_8.out BK290.out (by decide)) (fun _ hk => hk.2) (.int .u8 ((rd_T56 l0 x1_1).f0))) (fun _ hk => hk.2) (.string ((rd_T56 l0 x1_1).f1))) (fun _ hk => hk.2) (.int .i64 ((rd_T56 l0 x1_1).f2))) (fun _ hk => hk.2) (.int .i64 ((rd_T56 l0 x1_1).f3))) (fun _ hk => trivial)⟩, ⟨by (with_reducible repeat (first | refine blk_drewN ?_ _ | refine blk_drew ?_ | refine blk_alloc ?_ _)); refine blk_put (cs := #[.int .u8 ((rd_T56 l0 x1_1).f0), .string ((rd_T56 l0 x1_1).f1), .int .i64 ((rd_T56 l0 x1_1).f2), .int .i64 0]) ?_ 3 _ rfl; (with_reducible repeat (first | refine blk_drewN ?_ _ | refine blk_drew ?_ | refine blk_alloc ?_ _)); refine blk_put (cs := #[.int .u8 ((rd_T56 l0 x1_1).f0), .string ((rd_T56 l0 x1_1).f1), .int .i64 0, .int .i64 0]) ?_ 2 _ rfl; (with_reducible repeat (first | refine blk_drewN ?_ _ | refine blk_drew ?_ | refine blk_alloc ?_ _)); refine blk_put (cs := #[.int .u8 ((rd_T56 l0 x1_1).f0), .string (⟨#[]⟩ : ByteArray), .int .i64 0, .int .i64 0]) ?_ 1 _ rfl; (with_reducible repeat (first | refine blk_drewN ?_ _ | refine blk_drew ?_ | refine blk_alloc ?_ _)); refine blk_put (cs := #[.int .u8 0, .string (⟨#[]⟩ : ByteArray), .int .i64 0, .int .i64 0]) ?_ 0 _ rfl; (with_reducible repeat (first | refine blk_drewN ?_ _ | refine blk_drew ?_ | refine blk_alloc ?_ _)); exact BK290.out⟩, ⟨by repeat (first | (with_reducible first | exact HB.out | apply below_alloc | apply pw_below_drewN | apply below_drew1 | refine below_set ?_ GE290.out) | exact HB.out)⟩⟩
      case rest =>
       clear HC7
       try clear c1
       try clear p2
       try clear q2
       try clear hx2
       try clear c4
       try clear c4b0
       try clear c5
       try clear c5b0
       try clear c6
       try clear c6b0
       try clear p6
       try clear c10
       try clear c10b0
       try clear c12
       try clear c12b0
       try clear hcz11_0
       try clear hcz11_1
       try clear hcz11_2
       try clear hcz11_3
       try clear hcz13_0
       try clear hcz13_1
       try clear hcz13_2
       try clear hcz13_3
       try clear hcz14_0
       try clear hcz14_1
       try clear hcz14_2
       try clear hcz14_3
       try clear hcz9_0
       try clear hcz9_1
       try clear hcz9_2
       try clear hcz9_3
       try clear hfz11_0
       try clear hfz11_1
       try clear hfz11_2
       try clear hfz11_3
       try clear hfz13_0
       try clear hfz13_1
       try clear hfz13_2
       try clear hfz13_3
       try clear hfz14_0
       try clear hfz14_1
       try clear hfz14_2
       try clear hfz14_3
       try clear hfz9_0
       try clear hfz9_1
       try clear hfz9_2
       try clear hfz9_3
       try clear hx289_0
       try clear hx289_1
       try clear hx289_2
       try clear hx289_3
       try clear p2
       try clear p289
       try clear q289
       obtain ⟨kq, x37_6, rfl, HA, HJ6, HO_8, BK290, HB⟩ := hcut
       cases kq with
       | zero => exact absurd HA.out (by simp [stylusref04_events.j1])
       | succ kj6 =>
        have H := HA.out
        clear HA
        simp only [stylusref04_events.j1] at H
        by_cases c15 : x37_6 = true
        ·subst c15
         have H1 : (some (([] : List (S47)), false)) = some (r1, r2) := by rw [if_pos rfl] at H; exact H
         clear H
         have H := H1
         clear H1
         simp only [Option.some.injEq, Prod.mk.injEq] at H
         obtain ⟨rfl, rfl⟩ := H
         go_wp2
         go_ret2
         exact ⟨_, by first | rfl | (simp [errW_none, errW_some] <;> rfl) | (simp [*, errW_none, errW_some] <;> rfl), by first | exact Kd.R_nil _ _ _ _ _ | exact Kd.N_nil _ _ _ _ _ | exact Kd.V_nil _ _ _ _ _ | exact Kd.Q_nil _ _ _ _ _ | exact Kd.S_nil _ _ _ _ _, by repeat (first | (with_reducible first | exact HB.out | apply below_alloc | apply pw_below_drewN | apply below_drew1 | refine below_set ?_ GE290.out) | exact HB.out)⟩
        ·replace c15 := Bool.eq_false_iff.mpr c15
         subst c15
         have H1 : (if ((rd_T56 l0 x1_1).f0) = 46 then (if ((rd_T56 l0 x1_1).f3) = 1 then (if x8_1.length < 3518437208883 then (stylusref04_events.l0 kj6 l0 (wrap64 (x1_1 + ((rd_T56 l0 x1_1).f3))) a2 (x8_1 ++ [(⟨1, 0, ((rd_T56 l0 x1_1).f1), 0⟩ : S47)])) else (none)) else (some (([] : List (S47)), false))) else ((stylusref04_events.f kj6 l0 (wrap64 (x1_1 + 1)) (wrap64 (x1_1 + ((rd_T56 l0 x1_1).f3)))).bind fun bt294 => (if bt294.2 = true then (if x8_1.length < 3518437208883 then ((some (x8_1 ++ [(⟨2, ((rd_T56 l0 x1_1).f0), (⟨#[]⟩ : ByteArray), 0⟩ : S47)] : List (S47))).bind fun y298 => (if y298.length + bt294.1.length < 3518437208883 then ((some (y298 ++ bt294.1 : List (S47))).bind fun y301 => (if y301.length < 3518437208883 then (stylusref04_events.l0 kj6 l0 (wrap64 (x1_1 + ((rd_T56 l0 x1_1).f3))) a2 (y301 ++ [(⟨3, 0, (⟨#[]⟩ : ByteArray), 0⟩ : S47)])) else (none))) else (none))) else (none)) else (some (([] : List (S47)), false))))) = some (r1, r2) := by rw [if_neg (show ¬ (false = true) by decide)] at H; exact H
         clear H
         have H := H1
         clear H1
         by_cases c16 : ((rd_T56 l0 x1_1).f0) = 46
         ·rw [if_pos c16] at H
          have c16b0 : (((rd_T56 l0 x1_1).f0) == 46) = true := beq_iff_eq.mpr c16
          have c16b1 : (((rd_T56 l0 x1_1).f0) != 46) = false := bne_eq_false_iff_eq.mpr c16
          clear c16
          by_cases c17 : ((rd_T56 l0 x1_1).f3) = 1
          ·rw [if_pos c17] at H
           have c17b0 : (((rd_T56 l0 x1_1).f3) == 1) = true := beq_iff_eq.mpr c17
           have c17b1 : (((rd_T56 l0 x1_1).f3) != 1) = false := bne_eq_false_iff_eq.mpr c17
           clear c17
           by_cases c18 : x8_1.length < 3518437208883
           ·rw [if_pos c18] at H
            have LMc18 := Aside0.mk c18
            clear c18
            obtain ⟨y291, hy291⟩ : ∃ y_ : List (S47), y_ = (x8_1 ++ [(⟨1, 0, ((rd_T56 l0 x1_1).f1), 0⟩ : S47)]) := ⟨_, rfl⟩
            replace H : (stylusref04_events.l0 kj6 l0 (wrap64 (x1_1 + ((rd_T56 l0 x1_1).f3))) a2 y291) = some (r1, r2) := by first | (rw [hy291]; with_reducible exact H) | (have H2_ := (Option.bind_some _ _).symm.trans H; rw [hy291]; with_reducible exact H2_) | (have H2_ := (Option.bind_some _ _).symm.trans H; with_reducible exact H2_) | with_reducible exact H | (rw [hy291]; exact H) | exact H
            have Ny291 := Aside0.mk hy291
            clear hy291
            have H' := Aside0.mk H
            clear H
            have hcz19_0 : wc.cell? ⟨gb290, 0, none⟩ = some (.int .u8 ((rd_T56 l0 x1_1).f0)) := (blk_cell BK290.out 0).trans rfl
            have hcz19_1 : wc.cell? ⟨gb290, 1, none⟩ = some (.string ((rd_T56 l0 x1_1).f1)) := (blk_cell BK290.out 1).trans rfl
            have hcz19_2 : wc.cell? ⟨gb290, 2, none⟩ = some (.int .i64 ((rd_T56 l0 x1_1).f2)) := (blk_cell BK290.out 2).trans rfl
            have hcz19_3 : wc.cell? ⟨gb290, 3, none⟩ = some (.int .i64 ((rd_T56 l0 x1_1).f3)) := (blk_cell BK290.out 3).trans rfl
            have hfz19_0 := blk_frozen BK290.out 0
            have hfz19_1 := blk_frozen BK290.out 1
            have hfz19_2 := blk_frozen BK290.out 2
            have hfz19_3 := blk_frozen BK290.out 3
            go_wp2_with (first | ((with_reducible refine gate_builtin (b := .append) (xs := #[.tmp 44, .tmp 48]) rfl ?_); at_builtin; refine Kd.R_append k47 (w0 := w) w.heap.size rfl (.tmp 44) (.tmp 48) 41 47 (.agg #[(.int .i64 0), (.int .u8 0), (.string ⟨#[]⟩), (.int .i64 0)]) 40 rfl Try.underlying41 info47 rfl (by decide) (by omega) u8 x8_1 (⟨1, 0, ((rd_T56 l0 x1_1).f1), 0⟩ : S47) [.int .i64 1, .int .u8 0, .string ((rd_T56 l0 x1_1).f1), .int .i64 0] (fun _ => True) (fun _ => False) rfl rfl ?aP (fun _ hk => hk.elim) ?aF ?aO ?aB ?aS ?aL ?_; (case aP => exact k47_mkM _ _ _ (⟨1, 0, ((rd_T56 l0 x1_1).f1), 0⟩ : S47)); (case aB => exact (by repeat (first | (with_reducible first | exact HB.out | apply below_alloc | apply pw_below_drewN | apply below_drew1 | refine below_set ?_ GE290.out) | exact HB.out))); (case aF => exact (fun _ _ => trivial)); (case aO => exact (by (with_reducible repeat (first | apply Kd.R_alloc | apply Kd.R_drewN | apply Kd.R_drew)); exact HO_8.out)); (case aS => exact (below_size (by repeat (first | (with_reducible first | exact HB.out | apply below_alloc | apply pw_below_drewN | apply below_drew1 | refine below_set ?_ GE290.out) | exact HB.out)))); (case aL => have := LMc18.out; omega); intro v292 w20 ho hb hg hat; rw [← Ny291.out] at ho; have n0_ := Aside0.mk (blk_grown (g := gb290) (o := .cells #[.int .u8 ((rd_T56 l0 x1_1).f0), .string ((rd_T56 l0 x1_1).f1), .int .i64 ((rd_T56 l0 x1_1).f2), .int .i64 ((rd_T56 l0 x1_1).f3)] 56 (0, 0)) (by (with_reducible repeat (first | refine blk_drewN ?_ _ | refine blk_drew ?_ | refine blk_alloc ?_ _)); exact BK290.out) hg (Kd.R_ne HO_8.out BK290.out (by decide))); have n1_ := Aside0.mk (hb); have n2_ := Aside0.mk (ho); clear BK290; clear HB; clear HO_8; have BK290 := n0_; have HB := n1_; have HO293 := n2_; clear n0_ n1_ n2_; clear ho hb hg hat; have hcz21_0 : w20.cell? ⟨gb290, 0, none⟩ = some (.int .u8 ((rd_T56 l0 x1_1).f0)) := (blk_cell BK290.out 0).trans rfl; have hcz21_1 : w20.cell? ⟨gb290, 1, none⟩ = some (.string ((rd_T56 l0 x1_1).f1)) := (blk_cell BK290.out 1).trans rfl; have hcz21_2 : w20.cell? ⟨gb290, 2, none⟩ = some (.int .i64 ((rd_T56 l0 x1_1).f2)) := (blk_cell BK290.out 2).trans rfl; have hcz21_3 : w20.cell? ⟨gb290, 3, none⟩ = some (.int .i64 ((rd_T56 l0 x1_1).f3)) := (blk_cell BK290.out 3).trans rfl; have hfz21_0 := blk_frozen BK290.out 0; have hfz21_1 := blk_frozen BK290.out 1; have hfz21_2 := blk_frozen BK290.out 2; have hfz21_3 := blk_frozen BK290.out 3))
            go_roundg kj6
            case measure => have := HK1.out; have := HJ6.out; omega
            case rel => exact ⟨(wrap64 (x1_1 + ((rd_T56 l0 x1_1).f3))), (y291), (by first | rfl | (simp; done) | (simp [*]; done)), H', ⟨by have := HK1.out; have := HJ6.out; omega⟩, ⟨by (with_reducible repeat (first | apply Kd.R_alloc | apply Kd.R_drewN | apply Kd.R_drew)); exact HO293.out⟩, ⟨by repeat (first | (with_reducible first | exact HB.out | apply below_alloc | apply pw_below_drewN | apply below_drew1 | refine below_set ?_ GE290.out) | exact HB.out)⟩⟩
           ·rw [if_neg c18] at H
            exact absurd H (by simp)
          ·rw [if_neg c17] at H
           have c17b0 : (((rd_T56 l0 x1_1).f3) == 1) = false := beq_eq_false_iff_ne.mpr c17
           have c17b1 : (((rd_T56 l0 x1_1).f3) != 1) = true := bne_iff_ne.mpr c17
           simp only [Option.some.injEq, Prod.mk.injEq] at H
           obtain ⟨rfl, rfl⟩ := H
           have hcz22_0 : wc.cell? ⟨gb290, 0, none⟩ = some (.int .u8 ((rd_T56 l0 x1_1).f0)) := (blk_cell BK290.out 0).trans rfl
           have hcz22_1 : wc.cell? ⟨gb290, 1, none⟩ = some (.string ((rd_T56 l0 x1_1).f1)) := (blk_cell BK290.out 1).trans rfl
           have hcz22_2 : wc.cell? ⟨gb290, 2, none⟩ = some (.int .i64 ((rd_T56 l0 x1_1).f2)) := (blk_cell BK290.out 2).trans rfl
           have hcz22_3 : wc.cell? ⟨gb290, 3, none⟩ = some (.int .i64 ((rd_T56 l0 x1_1).f3)) := (blk_cell BK290.out 3).trans rfl
           have hfz22_0 := blk_frozen BK290.out 0
           have hfz22_1 := blk_frozen BK290.out 1
           have hfz22_2 := blk_frozen BK290.out 2
           have hfz22_3 := blk_frozen BK290.out 3
           go_wp2
           go_ret2
           exact ⟨_, by first | rfl | (simp [errW_none, errW_some] <;> rfl) | (simp [*, errW_none, errW_some] <;> rfl), by first | exact Kd.R_nil _ _ _ _ _ | exact Kd.N_nil _ _ _ _ _ | exact Kd.V_nil _ _ _ _ _ | exact Kd.Q_nil _ _ _ _ _ | exact Kd.S_nil _ _ _ _ _, by repeat (first | (with_reducible first | exact HB.out | apply below_alloc | apply pw_below_drewN | apply below_drew1 | refine below_set ?_ GE290.out) | exact HB.out)⟩
         ·rw [if_neg c16] at H
          have c16b0 : (((rd_T56 l0 x1_1).f0) == 46) = false := beq_eq_false_iff_ne.mpr c16
          have c16b1 : (((rd_T56 l0 x1_1).f0) != 46) = true := bne_iff_ne.mpr c16
          replace H := Option.bind_eq_some_iff.mp H
          obtain ⟨⟨t294, t295⟩, A230, H⟩ := H
          replace H : (if t295 = true then (if x8_1.length < 3518437208883 then ((some (x8_1 ++ [(⟨2, ((rd_T56 l0 x1_1).f0), (⟨#[]⟩ : ByteArray), 0⟩ : S47)] : List (S47))).bind fun y298 => (if y298.length + t294.length < 3518437208883 then ((some (y298 ++ t294 : List (S47))).bind fun y301 => (if y301.length < 3518437208883 then (stylusref04_events.l0 kj6 l0 (wrap64 (x1_1 + ((rd_T56 l0 x1_1).f3))) a2 (y301 ++ [(⟨3, 0, (⟨#[]⟩ : ByteArray), 0⟩ : S47)])) else (none))) else (none))) else (none)) else (some (([] : List (S47)), false))) = some (r1, r2) := H
          have A23 := Aside0.mk A230
          clear A230
          by_cases c24 : t295 = true
          ·subst c24
           have H1 : (if x8_1.length < 3518437208883 then ((some (x8_1 ++ [(⟨2, ((rd_T56 l0 x1_1).f0), (⟨#[]⟩ : ByteArray), 0⟩ : S47)] : List (S47))).bind fun y298 => (if y298.length + t294.length < 3518437208883 then ((some (y298 ++ t294 : List (S47))).bind fun y301 => (if y301.length < 3518437208883 then (stylusref04_events.l0 kj6 l0 (wrap64 (x1_1 + ((rd_T56 l0 x1_1).f3))) a2 (y301 ++ [(⟨3, 0, (⟨#[]⟩ : ByteArray), 0⟩ : S47)])) else (none))) else (none))) else (none)) = some (r1, r2) := by rw [if_pos rfl] at H; exact H
           clear H
           have H := H1
           clear H1
           by_cases c25 : x8_1.length < 3518437208883
           ·rw [if_pos c25] at H
            have LMc25 := Aside0.mk c25
            clear c25
            obtain ⟨y298, hy298⟩ : ∃ y_ : List (S47), y_ = (x8_1 ++ [(⟨2, ((rd_T56 l0 x1_1).f0), (⟨#[]⟩ : ByteArray), 0⟩ : S47)]) := ⟨_, rfl⟩
            replace H : (if y298.length + t294.length < 3518437208883 then ((some (y298 ++ t294 : List (S47))).bind fun y301 => (if y301.length < 3518437208883 then (stylusref04_events.l0 kj6 l0 (wrap64 (x1_1 + ((rd_T56 l0 x1_1).f3))) a2 (y301 ++ [(⟨3, 0, (⟨#[]⟩ : ByteArray), 0⟩ : S47)])) else (none))) else (none)) = some (r1, r2) := by first | (rw [hy298]; with_reducible exact H) | (have H2_ := (Option.bind_some _ _).symm.trans H; rw [hy298]; with_reducible exact H2_) | (have H2_ := (Option.bind_some _ _).symm.trans H; with_reducible exact H2_) | with_reducible exact H | (rw [hy298]; exact H) | exact H
            have Ny298 := Aside0.mk hy298
            clear hy298
            by_cases c26 : y298.length + t294.length < 3518437208883
            ·rw [if_pos c26] at H
             have LMc26 := Aside0.mk c26
             clear c26
             obtain ⟨y301, hy301⟩ : ∃ y_ : List (S47), y_ = (y298 ++ t294) := ⟨_, rfl⟩
             replace H : (if y301.length < 3518437208883 then (stylusref04_events.l0 kj6 l0 (wrap64 (x1_1 + ((rd_T56 l0 x1_1).f3))) a2 (y301 ++ [(⟨3, 0, (⟨#[]⟩ : ByteArray), 0⟩ : S47)])) else (none)) = some (r1, r2) := by first | (rw [hy301]; with_reducible exact H) | (have H2_ := (Option.bind_some _ _).symm.trans H; rw [hy301]; with_reducible exact H2_) | (have H2_ := (Option.bind_some _ _).symm.trans H; with_reducible exact H2_) | with_reducible exact H | (rw [hy301]; exact H) | exact H
             have Ny301 := Aside0.mk hy301
             clear hy301
             by_cases c27 : y301.length < 3518437208883
             ·rw [if_pos c27] at H
              have LMc27 := Aside0.mk c27
              clear c27
              obtain ⟨y304, hy304⟩ : ∃ y_ : List (S47), y_ = (y301 ++ [(⟨3, 0, (⟨#[]⟩ : ByteArray), 0⟩ : S47)]) := ⟨_, rfl⟩
              replace H : (stylusref04_events.l0 kj6 l0 (wrap64 (x1_1 + ((rd_T56 l0 x1_1).f3))) a2 y304) = some (r1, r2) := by first | (rw [hy304]; with_reducible exact H) | (have H2_ := (Option.bind_some _ _).symm.trans H; rw [hy304]; with_reducible exact H2_) | (have H2_ := (Option.bind_some _ _).symm.trans H; with_reducible exact H2_) | with_reducible exact H | (rw [hy304]; exact H) | exact H
              have Ny304 := Aside0.mk hy304
              clear hy304
              have H' := Aside0.mk H
              clear H
              have hcz28_0 : wc.cell? ⟨gb290, 0, none⟩ = some (.int .u8 ((rd_T56 l0 x1_1).f0)) := (blk_cell BK290.out 0).trans rfl
              have hcz28_1 : wc.cell? ⟨gb290, 1, none⟩ = some (.string ((rd_T56 l0 x1_1).f1)) := (blk_cell BK290.out 1).trans rfl
              have hcz28_2 : wc.cell? ⟨gb290, 2, none⟩ = some (.int .i64 ((rd_T56 l0 x1_1).f2)) := (blk_cell BK290.out 2).trans rfl
              have hcz28_3 : wc.cell? ⟨gb290, 3, none⟩ = some (.int .i64 ((rd_T56 l0 x1_1).f3)) := (blk_cell BK290.out 3).trans rfl
              have hfz28_0 := blk_frozen BK290.out 0
              have hfz28_1 := blk_frozen BK290.out 1
              have hfz28_2 := blk_frozen BK290.out 2
              have hfz28_3 := blk_frozen BK290.out 3
              go_wp2_with (first | ((with_reducible refine gate_callee (f := 107) rfl ?_); refine goesL_ (some 58) rfl rfl Try.func107 (by kernel_rfl) rfl #[.slice (some ad289) l0.length c0, .int .i64 (wrap64 (x1_1 + 1)), .int .i64 (wrap64 (x1_1 + ((rd_T56 l0 x1_1).f3)))] rfl (by (try simp only [List.map_toArray, List.map_cons, List.map_nil]); first | done | rfl | (simp only [List.length_drop, List.length_take]; rfl)) ?_; (with_reducible refine (ih kj6 (by have := HK1.out; have := HJ6.out; omega) _ _ l0 (wrap64 (x1_1 + 1)) (wrap64 (x1_1 + ((rd_T56 l0 x1_1).f3))) t294 true _ ?side1 ?side2 A23.out).mono ?_); (case side1 => repeat (first | exact (Kd.C_below HR0.out HB.out) | (with_reducible refine Kd.C_alloc ?_ _) | (with_reducible refine Kd.C_drewN ?_ _) | (with_reducible refine Kd.C_drew ?_))); (case side2 => exact HC0.out); rintro e w29 ⟨v296, rfl, ho0, hb⟩; refine ⟨_, rfl, ?_⟩; have n0_ := Aside0.mk (Kd.R_elder' (by (with_reducible repeat (first | apply Kd.R_alloc | apply Kd.R_drewN | apply Kd.R_drew)); exact HO_8.out) (Kd.R_base ho0) hb); have n1_ := Aside0.mk (Kd.R_lower (Kd.R_new' ho0 (Kd.R_lt (by (with_reducible repeat (first | apply Kd.R_alloc | apply Kd.R_drewN | apply Kd.R_drew)); exact HO_8.out))) (below_size (by repeat (first | (with_reducible first | exact HB.out | apply below_alloc | apply pw_below_drewN | apply below_drew1 | refine below_set ?_ GE290.out) | exact HB.out)))); have n2_ := Aside0.mk (blk_below (g := gb290) (o := .cells #[.int .u8 ((rd_T56 l0 x1_1).f0), .string ((rd_T56 l0 x1_1).f1), .int .i64 ((rd_T56 l0 x1_1).f2), .int .i64 ((rd_T56 l0 x1_1).f3)] 56 (0, 0)) (by (with_reducible repeat (first | refine blk_drewN ?_ _ | refine blk_drew ?_ | refine blk_alloc ?_ _)); exact BK290.out) hb); have n3_ := Aside0.mk (below_step (by repeat (first | (with_reducible first | exact HB.out | apply below_alloc | apply pw_below_drewN | apply below_drew1 | refine below_set ?_ GE290.out) | exact HB.out)) hb); clear HO_8; clear BK290; clear HB; have HO_8 := n0_; have HO297 := n1_; have BK290 := n2_; have HB := n3_; clear n0_ n1_ n2_ n3_; (try clear hb); (try clear hb2); (try clear hk); (try clear hi); (try clear ho0); have hcz30_0 : w29.cell? ⟨gb290, 0, none⟩ = some (.int .u8 ((rd_T56 l0 x1_1).f0)) := (blk_cell BK290.out 0).trans rfl; have hcz30_1 : w29.cell? ⟨gb290, 1, none⟩ = some (.string ((rd_T56 l0 x1_1).f1)) := (blk_cell BK290.out 1).trans rfl; have hcz30_2 : w29.cell? ⟨gb290, 2, none⟩ = some (.int .i64 ((rd_T56 l0 x1_1).f2)) := (blk_cell BK290.out 2).trans rfl; have hcz30_3 : w29.cell? ⟨gb290, 3, none⟩ = some (.int .i64 ((rd_T56 l0 x1_1).f3)) := (blk_cell BK290.out 3).trans rfl; have hfz30_0 := blk_frozen BK290.out 0; have hfz30_1 := blk_frozen BK290.out 1; have hfz30_2 := blk_frozen BK290.out 2; have hfz30_3 := blk_frozen BK290.out 3) | ((with_reducible refine gate_builtin (b := .append) (xs := #[.tmp 63, .tmp 67]) rfl ?_); at_builtin; refine Kd.R_append k47 (w0 := w) w.heap.size rfl (.tmp 63) (.tmp 67) 41 47 (.agg #[(.int .i64 0), (.int .u8 0), (.string ⟨#[]⟩), (.int .i64 0)]) 40 rfl Try.underlying41 info47 rfl (by decide) (by omega) u8 x8_1 (⟨2, ((rd_T56 l0 x1_1).f0), (⟨#[]⟩ : ByteArray), 0⟩ : S47) [.int .i64 2, .int .u8 ((rd_T56 l0 x1_1).f0), .string (⟨#[]⟩ : ByteArray), .int .i64 0] (fun k_ => some k_ ≠ (v296 : Value).ownBlock) (fun _ => False) rfl rfl ?aP (fun _ hk => hk.elim) ?aF ?aO ?aB ?aS ?aL ?_; (case aP => exact k47_mkM _ _ _ (⟨2, ((rd_T56 l0 x1_1).f0), (⟨#[]⟩ : ByteArray), 0⟩ : S47)); (case aB => exact (by repeat (first | (with_reducible first | exact HB.out | apply below_alloc | apply pw_below_drewN | apply below_drew1 | refine below_set ?_ GE290.out) | exact HB.out))); (case aF => exact (fun k_ hk => Kd.fresh' (Kd.R_lt (by (with_reducible repeat (first | apply Kd.R_alloc | apply Kd.R_drewN | apply Kd.R_drew)); exact HO297.out)) k_ hk)); (case aO => exact (by (with_reducible repeat (first | apply Kd.R_alloc | apply Kd.R_drewN | apply Kd.R_drew)); exact Kd.R_mono HO_8.out (fun _ hk => hk.2))); (case aS => exact (below_size (by repeat (first | (with_reducible first | exact HB.out | apply below_alloc | apply pw_below_drewN | apply below_drew1 | refine below_set ?_ GE290.out) | exact HB.out)))); (case aL => have := LMc25.out; omega); intro v299 w31 ho hb hg hat; rw [← Ny298.out] at ho; have n0_ := Aside0.mk (blk_grown (g := gb290) (o := .cells #[.int .u8 ((rd_T56 l0 x1_1).f0), .string ((rd_T56 l0 x1_1).f1), .int .i64 ((rd_T56 l0 x1_1).f2), .int .i64 ((rd_T56 l0 x1_1).f3)] 56 (0, 0)) (by (with_reducible repeat (first | refine blk_drewN ?_ _ | refine blk_drew ?_ | refine blk_alloc ?_ _)); exact BK290.out) hg (Kd.R_ne HO_8.out BK290.out (by decide))); have n1_ := Aside0.mk (Kd.R_after (ok := (fun _ => True)) (by (with_reducible repeat (first | apply Kd.R_alloc | apply Kd.R_drewN | apply Kd.R_drew)); exact HO297.out) hg hat); have n2_ := Aside0.mk (hb); have n3_ := Aside0.mk (ho); clear BK290; clear HO297; clear HB; clear HO_8; have BK290 := n0_; have HO297 := n1_; have HB := n2_; have HO300 := n3_; clear n0_ n1_ n2_ n3_; clear ho hb hg hat; obtain ⟨Ao33, co33, eo33⟩ := Kd.R_slice HO297.out; subst eo33) | ((with_reducible refine gate_builtin (b := .append) (xs := #[.tmp 69, .tmp 70]) rfl ?_); at_builtin; refine Kd.R_append_rows k47 (w0 := w) w.heap.size rfl (.tmp 69) (.tmp 70) 41 47 (.agg #[(.int .i64 0), (.int .u8 0), (.string ⟨#[]⟩), (.int .i64 0)]) 40 rfl Try.underlying41 info47 rfl (by decide) (by omega) v299 y298 t294 _ _ _ (fun k_ => some k_ ≠ (.slice Ao33 t294.length co33 : Value).ownBlock) (fun _ => False) rfl rfl ?aO ?aR (fun _ _ h => h) (fun _ h => h.elim) ?aF ?aB ?aS ?aL ?_; (case aR => repeat (first | exact (Kd.R_reads' HO297.out).2.2 | (with_reducible refine Kd.C_alloc ?_ _) | (with_reducible refine Kd.C_drewN ?_ _) | (with_reducible refine Kd.C_drew ?_))); (case aB => exact (by repeat (first | (with_reducible first | exact HB.out | apply below_alloc | apply pw_below_drewN | apply below_drew1 | refine below_set ?_ GE290.out) | exact HB.out))); (case aF => exact (fun k_ hk => Kd.fresh' (Kd.R_lt (by (with_reducible repeat (first | apply Kd.R_alloc | apply Kd.R_drewN | apply Kd.R_drew)); exact HO297.out)) k_ hk)); (case aO => exact (by (with_reducible repeat (first | apply Kd.R_alloc | apply Kd.R_drewN | apply Kd.R_drew)); exact HO300.out)); (case aS => exact (below_size (by repeat (first | (with_reducible first | exact HB.out | apply below_alloc | apply pw_below_drewN | apply below_drew1 | refine below_set ?_ GE290.out) | exact HB.out)))); (case aL => have := LMc26.out; omega); intro v302 w32 ho hb hg hat; rw [← Ny301.out] at ho; have n0_ := Aside0.mk (blk_grown (g := gb290) (o := .cells #[.int .u8 ((rd_T56 l0 x1_1).f0), .string ((rd_T56 l0 x1_1).f1), .int .i64 ((rd_T56 l0 x1_1).f2), .int .i64 ((rd_T56 l0 x1_1).f3)] 56 (0, 0)) (by (with_reducible repeat (first | refine blk_drewN ?_ _ | refine blk_drew ?_ | refine blk_alloc ?_ _)); exact BK290.out) hg (Kd.R_ne HO300.out BK290.out (by decide))); have n1_ := Aside0.mk (Kd.R_after (ok := (fun _ => True)) (by (with_reducible repeat (first | apply Kd.R_alloc | apply Kd.R_drewN | apply Kd.R_drew)); exact HO297.out) hg hat); have n2_ := Aside0.mk (hb); have n3_ := Aside0.mk (ho); clear BK290; clear HO297; clear HB; clear HO300; have BK290 := n0_; have HO297 := n1_; have HB := n2_; have HO303 := n3_; clear n0_ n1_ n2_ n3_; clear ho hb hg hat) | ((with_reducible refine gate_builtin (b := .append) (xs := #[.tmp 72, .tmp 74]) rfl ?_); at_builtin; refine Kd.R_append k47 (w0 := w) w.heap.size rfl (.tmp 72) (.tmp 74) 41 47 (.agg #[(.int .i64 0), (.int .u8 0), (.string ⟨#[]⟩), (.int .i64 0)]) 40 rfl Try.underlying41 info47 rfl (by decide) (by omega) v302 y301 (⟨3, 0, (⟨#[]⟩ : ByteArray), 0⟩ : S47) [.int .i64 3, .int .u8 0, .string (⟨#[]⟩ : ByteArray), .int .i64 0] (fun k_ => some k_ ≠ (.slice Ao33 t294.length co33 : Value).ownBlock) (fun _ => False) rfl rfl ?aP (fun _ hk => hk.elim) ?aF ?aO ?aB ?aS ?aL ?_; (case aP => exact k47_mkM _ _ _ (⟨3, 0, (⟨#[]⟩ : ByteArray), 0⟩ : S47)); (case aB => exact (by repeat (first | (with_reducible first | exact HB.out | apply below_alloc | apply pw_below_drewN | apply below_drew1 | refine below_set ?_ GE290.out) | exact HB.out))); (case aF => exact (fun k_ hk => Kd.fresh' (Kd.R_lt (by (with_reducible repeat (first | apply Kd.R_alloc | apply Kd.R_drewN | apply Kd.R_drew)); exact HO297.out)) k_ hk)); (case aO => exact (by (with_reducible repeat (first | apply Kd.R_alloc | apply Kd.R_drewN | apply Kd.R_drew)); exact HO303.out)); (case aS => exact (below_size (by repeat (first | (with_reducible first | exact HB.out | apply below_alloc | apply pw_below_drewN | apply below_drew1 | refine below_set ?_ GE290.out) | exact HB.out)))); (case aL => have := LMc27.out; omega); intro v305 w34 ho hb hg hat; rw [← Ny304.out] at ho; have n0_ := Aside0.mk (blk_grown (g := gb290) (o := .cells #[.int .u8 ((rd_T56 l0 x1_1).f0), .string ((rd_T56 l0 x1_1).f1), .int .i64 ((rd_T56 l0 x1_1).f2), .int .i64 ((rd_T56 l0 x1_1).f3)] 56 (0, 0)) (by (with_reducible repeat (first | refine blk_drewN ?_ _ | refine blk_drew ?_ | refine blk_alloc ?_ _)); exact BK290.out) hg (Kd.R_ne HO303.out BK290.out (by decide))); have n1_ := Aside0.mk (Kd.R_after (ok := (fun _ => True)) (by (with_reducible repeat (first | apply Kd.R_alloc | apply Kd.R_drewN | apply Kd.R_drew)); exact HO297.out) hg hat); have n2_ := Aside0.mk (hb); have n3_ := Aside0.mk (ho); clear BK290; clear HO297; clear HB; clear HO303; have BK290 := n0_; have HO297 := n1_; have HB := n2_; have HO306 := n3_; clear n0_ n1_ n2_ n3_; clear ho hb hg hat; have hcz35_0 : w34.cell? ⟨gb290, 0, none⟩ = some (.int .u8 ((rd_T56 l0 x1_1).f0)) := (blk_cell BK290.out 0).trans rfl; have hcz35_1 : w34.cell? ⟨gb290, 1, none⟩ = some (.string ((rd_T56 l0 x1_1).f1)) := (blk_cell BK290.out 1).trans rfl; have hcz35_2 : w34.cell? ⟨gb290, 2, none⟩ = some (.int .i64 ((rd_T56 l0 x1_1).f2)) := (blk_cell BK290.out 2).trans rfl; have hcz35_3 : w34.cell? ⟨gb290, 3, none⟩ = some (.int .i64 ((rd_T56 l0 x1_1).f3)) := (blk_cell BK290.out 3).trans rfl; have hfz35_0 := blk_frozen BK290.out 0; have hfz35_1 := blk_frozen BK290.out 1; have hfz35_2 := blk_frozen BK290.out 2; have hfz35_3 := blk_frozen BK290.out 3))
              go_roundg kj6
              case measure => have := HK1.out; have := HJ6.out; omega
              case rel => exact ⟨(wrap64 (x1_1 + ((rd_T56 l0 x1_1).f3))), (y304), (by first | rfl | (simp; done) | (simp [*]; done)), H', ⟨by have := HK1.out; have := HJ6.out; omega⟩, ⟨by (with_reducible repeat (first | apply Kd.R_alloc | apply Kd.R_drewN | apply Kd.R_drew)); exact Kd.R_mono HO306.out (fun _ hk => trivial)⟩, ⟨by repeat (first | (with_reducible first | exact HB.out | apply below_alloc | apply pw_below_drewN | apply below_drew1 | refine below_set ?_ GE290.out) | exact HB.out)⟩⟩
             ·rw [if_neg c27] at H
              exact absurd H (by simp)
            ·rw [if_neg c26] at H
             exact absurd H (by simp)
           ·rw [if_neg c25] at H
            exact absurd H (by simp)
          ·replace c24 := Bool.eq_false_iff.mpr c24
           subst c24
           have H1 : (some (([] : List (S47)), false)) = some (r1, r2) := by rw [if_neg (show ¬ (false = true) by decide)] at H; exact H
           clear H
           have H := H1
           clear H1
           simp only [Option.some.injEq, Prod.mk.injEq] at H
           obtain ⟨rfl, rfl⟩ := H
           have hcz36_0 : wc.cell? ⟨gb290, 0, none⟩ = some (.int .u8 ((rd_T56 l0 x1_1).f0)) := (blk_cell BK290.out 0).trans rfl
           have hcz36_1 : wc.cell? ⟨gb290, 1, none⟩ = some (.string ((rd_T56 l0 x1_1).f1)) := (blk_cell BK290.out 1).trans rfl
           have hcz36_2 : wc.cell? ⟨gb290, 2, none⟩ = some (.int .i64 ((rd_T56 l0 x1_1).f2)) := (blk_cell BK290.out 2).trans rfl
           have hcz36_3 : wc.cell? ⟨gb290, 3, none⟩ = some (.int .i64 ((rd_T56 l0 x1_1).f3)) := (blk_cell BK290.out 3).trans rfl
           have hfz36_0 := blk_frozen BK290.out 0
           have hfz36_1 := blk_frozen BK290.out 1
           have hfz36_2 := blk_frozen BK290.out 2
           have hfz36_3 := blk_frozen BK290.out 3
           go_wp2_with (first | ((with_reducible refine gate_callee (f := 107) rfl ?_); refine goesL_ (some 58) rfl rfl Try.func107 (by kernel_rfl) rfl #[.slice (some ad289) l0.length c0, .int .i64 (wrap64 (x1_1 + 1)), .int .i64 (wrap64 (x1_1 + ((rd_T56 l0 x1_1).f3)))] rfl (by (try simp only [List.map_toArray, List.map_cons, List.map_nil]); first | done | rfl | (simp only [List.length_drop, List.length_take]; rfl)) ?_; (with_reducible refine (ih kj6 (by have := HK1.out; have := HJ6.out; omega) _ _ l0 (wrap64 (x1_1 + 1)) (wrap64 (x1_1 + ((rd_T56 l0 x1_1).f3))) t294 false _ ?side1 ?side2 A23.out).mono ?_); (case side1 => repeat (first | exact (Kd.C_below HR0.out HB.out) | (with_reducible refine Kd.C_alloc ?_ _) | (with_reducible refine Kd.C_drewN ?_ _) | (with_reducible refine Kd.C_drew ?_))); (case side2 => exact HC0.out); rintro e w37 ⟨v296, rfl, ho0, hb⟩; refine ⟨_, rfl, ?_⟩; have n0_ := Aside0.mk (Kd.R_elder' (by (with_reducible repeat (first | apply Kd.R_alloc | apply Kd.R_drewN | apply Kd.R_drew)); exact HO_8.out) (Kd.R_base ho0) hb); have n1_ := Aside0.mk (Kd.R_lower (Kd.R_new' ho0 (Kd.R_lt (by (with_reducible repeat (first | apply Kd.R_alloc | apply Kd.R_drewN | apply Kd.R_drew)); exact HO_8.out))) (below_size (by repeat (first | (with_reducible first | exact HB.out | apply below_alloc | apply pw_below_drewN | apply below_drew1 | refine below_set ?_ GE290.out) | exact HB.out)))); have n2_ := Aside0.mk (blk_below (g := gb290) (o := .cells #[.int .u8 ((rd_T56 l0 x1_1).f0), .string ((rd_T56 l0 x1_1).f1), .int .i64 ((rd_T56 l0 x1_1).f2), .int .i64 ((rd_T56 l0 x1_1).f3)] 56 (0, 0)) (by (with_reducible repeat (first | refine blk_drewN ?_ _ | refine blk_drew ?_ | refine blk_alloc ?_ _)); exact BK290.out) hb); have n3_ := Aside0.mk (below_step (by repeat (first | (with_reducible first | exact HB.out | apply below_alloc | apply pw_below_drewN | apply below_drew1 | refine below_set ?_ GE290.out) | exact HB.out)) hb); clear HO_8; clear BK290; clear HB; have HO_8 := n0_; have HO297 := n1_; have BK290 := n2_; have HB := n3_; clear n0_ n1_ n2_ n3_; (try clear hb); (try clear hb2); (try clear hk); (try clear hi); (try clear ho0)))
           go_ret2
           exact ⟨_, by first | rfl | (simp [errW_none, errW_some] <;> rfl) | (simp [*, errW_none, errW_some] <;> rfl), by first | exact Kd.R_nil _ _ _ _ _ | exact Kd.N_nil _ _ _ _ _ | exact Kd.V_nil _ _ _ _ _ | exact Kd.Q_nil _ _ _ _ _ | exact Kd.S_nil _ _ _ _ _, by repeat (first | (with_reducible first | exact HB.out | apply below_alloc | apply pw_below_drewN | apply below_drew1 | refine below_set ?_ GE290.out) | exact HB.out)⟩
     ·rw [if_neg c6] at H
      exact absurd H (by simp)
    ·rw [if_neg c5] at H
     exact absurd H (by simp)
   ·rw [if_neg c4] at H
    have c4b0 : decide (x1_1 < a2) = false := decide_eq_false c4
    clear c4
    simp only [Option.some.injEq, Prod.mk.injEq] at H
    obtain ⟨rfl, rfl⟩ := H
    go_wp2
    go_ret2
    exact ⟨_, by first | rfl | (simp [errW_none, errW_some] <;> rfl) | (simp [*, errW_none, errW_some] <;> rfl), by (with_reducible repeat (first | apply Kd.R_alloc | apply Kd.R_drewN | apply Kd.R_drew)); exact HO_8.out, by repeat (first | (with_reducible first | exact HB.out | apply below_alloc | apply pw_below_drewN | apply below_drew1) | exact HB.out)⟩
end Go.Proofs.Ythcmfjpheanphaa.Pr
