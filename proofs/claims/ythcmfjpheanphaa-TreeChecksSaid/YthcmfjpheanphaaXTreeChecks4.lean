/- Texts of this seat, one behind the other. -/
import Derived.BigRegion
import Derived.Lib.Hide
import Derived.RangeFuncNested
import Derived.RangeFuncBound
import Derived.RangeFuncCalls
import Derived.RangeFuncLeaves
import Derived.Shelf.Abstract
import Derived.Shelf.RegionOpen
import Derived.OwnWalkIn
import Derived.TacticsInMore
import Derived.LoopNIn
import Derived.LoopIn
import Derived.RangeFuncBox
import Derived.Maps.AppendAt
import Derived.WalkKit
import Derived.Lib.ConvBytes
import Derived.Test.YthcmfjpheanphaaXTreeChecks1
import Derived.Test.YthcmfjpheanphaaXTreeChecks2
import Derived.Test.YthcmfjpheanphaaXTreeChecks3
set_option linter.unusedVariables false
set_option linter.unusedSimpArgs false
namespace Go.Proofs.Ythcmfjpheanphaa.Pr
open Go.RowKit Go.Maps Go.Proofs.YthcmfjpheanphaaW.PrintWords
attribute [local go_sem] Oper.semAt_some
theorem flatO_drop (r : List Opn) : (flatO r).take (r.dropLast.length * 7) = flatO r.dropLast := by
 rcases List.eq_nil_or_concat r with rfl | ⟨r', x, rfl⟩
 ·rfl
 ·rw [List.concat_eq_append, List.dropLast_concat, flatO_snoc, List.take_append_of_le_length (by rw [flatO_length]; omega), List.take_of_length_le (by rw [flatO_length]; omega)]
theorem BAt.pop {w : World} {B0 g m gr c n : Nat} {vt : Value} {s : Bld} (h : BAt w B0 g m (.slice (some ⟨gr, 0, none⟩) (n + 1) c) vt s) (hn : s.row.length = n + 1) :
  BAt (w.setCell ⟨g, 0, none⟩ (.slice (some ⟨gr, 0, none⟩) n c)) B0 g m (.slice (some ⟨gr, 0, none⟩) n c) vt ⟨s.row.dropLast, s.t⟩ ∧ Below B0 w (w.setCell ⟨g, 0, none⟩ (.slice (some ⟨gr, 0, none⟩) n c)) ∧ KeepK w (w.setCell ⟨g, 0, none⟩ (.slice (some ⟨gr, 0, none⟩) n c)) := by
 have hrow : w.ownsRow B0 155 7 (.slice (some ⟨gr, 0, none⟩) (n + 1) c) (n + 1) (flatO s.row) := by have := h.row; unfold RowO at this; rw [hn] at this; exact this
 have hne := own_ne hrow h.blk (by decide)
 obtain ⟨es, clock, hm⟩ := map_obj h.map
 have hmg : m ≠ g := fun e => by
  subst e
  rw [h.blk] at hm
  cases hm
 refine ⟨⟨h.base, blk_put h.blk 0 _ rfl, ?_, own_setCell h.t (p := ⟨g, 0, none⟩) (own_ne h.t h.blk (by decide)) _, map_move h.map fun o ho => ?_⟩, (Below.refl B0 w).setCell h.base _, KeepK.set (p := ⟨g, 0, none⟩) h.blk rfl _⟩
 ·have h1 := own_take hrow (m := n) (by omega)
  have h2 := own_setCell h1 (p := ⟨g, 0, none⟩) (by exact hne) (.slice (some ⟨gr, 0, none⟩) n c)
  have hl : s.row.dropLast.length = n := by rw [List.length_dropLast, hn]; rfl
  unfold RowO
  have hd := flatO_drop s.row
  rw [hl] at hd
  rw [hl, ← hd]
  exact h2
 ·rw [Below.heap_setCell _ _ _ _ hmg]
  exact ho
theorem flat56_mod (f : S56 → S56) (i : Nat) (hi : i < 4) (u : Value) : ∀ (xs : List S56) (j : Nat), j < xs.length → (nodeC (f (xs.getD j z56))).toList = ((nodeC (xs.getD j z56)).toList).set i u → (flat56 xs).set (j * 4 + i) u = flat56 (xs.modify j f)
 | [], j, h, _ => by simp at h
 | x :: xs, 0, h, hf => by
  have e : ∀ (y : S56) (ys : List S56), flat56 (y :: ys) = (nodeC y).toList ++ flat56 ys := fun _ _ => rfl
  rw [e, List.modify_zero_cons, e, List.set_append_left _ _ (by simp [nodeC]; omega), Nat.zero_mul, Nat.zero_add]
  simp only [List.getD_cons_zero] at hf
  rw [hf]
 | x :: xs, j + 1, h, hf => by
  have e : ∀ (y : S56) (ys : List S56), flat56 (y :: ys) = (nodeC y).toList ++ flat56 ys := fun _ _ => rfl
  rw [e, List.modify_succ_cons, e, List.set_append_right _ _ (by simp [nodeC]; omega)]
  rw [show (j + 1) * 4 + i - (nodeC x).toList.length = j * 4 + i from by simp [nodeC]; omega]
  rw [flat56_mod f i hi u xs j (by simpa using h) (by simpa using hf)]
theorem rowT_form {W : World} {B0 : Nat} {v : Value} {t : List S56} (h : W.ownsRow B0 56 4 v t.length (flat56 t)) (hr : 0 < t.length) : ∃ g c, v = .slice (some ⟨g, 0, none⟩) t.length c ∧ W.ownsRow B0 56 4 (.slice (some ⟨g, 0, none⟩) t.length c) t.length (flat56 t) := by
 obtain ⟨A, c, rfl⟩ := own_slice h
 rcases h.2 with ⟨_, h0⟩ | ⟨g, cap, cur, e, _⟩
 ·omega
 ·simp only [Value.slice.injEq] at e
  obtain ⟨rfl, _, rfl⟩ := e
  exact ⟨g, _, rfl, h⟩
theorem rowT_cell {W : World} {B0 g c : Nat} {t : List S56} (h : W.ownsRow B0 56 4 (.slice (some ⟨g, 0, none⟩) t.length c) t.length (flat56 t)) (j i : Nat) (hj : j < t.length) (hi : i < 4) : W.cell? ⟨g, j * 4 + i, none⟩ = (nodeC (t.getD j z56))[i]? := by
 rw [h.cellAt (j * 4 + i) (by omega)]
 have : ∀ (xs : List S56) (j : Nat), j < xs.length → (flat56 xs)[j * 4 + i]? = (nodeC (xs.getD j z56))[i]? := by
  intro xs
  induction xs with
  | nil => intro j h; simp at h
  | cons x xs ih =>
   intro j h
   have e : flat56 (x :: xs) = (nodeC x).toList ++ flat56 xs := rfl
   rw [e]
   cases j with
   | zero => rw [List.getElem?_append_left (by simp [nodeC]; omega)]; simp
   | succ j =>
    rw [List.getElem?_append_right (by simp [nodeC]; omega)]
    have := ih j (by simpa using h)
    rw [show (j + 1) * 4 + i - (nodeC x).toList.length = j * 4 + i from by simp [nodeC]; omega, this]
    simp
 exact this t j hj
theorem BAt.pop' {w : World} {B0 g m gr c n : Nat} {vt : Value} {s : Bld} (h : BAt w B0 g m (.slice (some ⟨gr, 0, none⟩) s.row.length c) vt s) (hn : s.row.length = n + 1) :
  BAt (w.setCell ⟨g, 0, none⟩ (.slice (some ⟨gr, 0, none⟩) n c)) B0 g m (.slice (some ⟨gr, 0, none⟩) n c) vt ⟨s.row.dropLast, s.t⟩ ∧ Below B0 w (w.setCell ⟨g, 0, none⟩ (.slice (some ⟨gr, 0, none⟩) n c)) ∧ KeepK w (w.setCell ⟨g, 0, none⟩ (.slice (some ⟨gr, 0, none⟩) n c)) :=
 BAt.pop (by have := h; rw [hn] at this; exact this) hn
theorem BAt.sized {w : World} {B0 g m gt ct p : Nat} {vr : Value} {s : Bld} (h : BAt w B0 g m vr (.slice (some ⟨gt, 0, none⟩) s.t.length ct) s) (hp : p < s.t.length) (n : Int) :
  BAt (w.setCell ⟨gt, p * 4 + 3, none⟩ (.int .i64 n)) B0 g m vr (.slice (some ⟨gt, 0, none⟩) s.t.length ct) ⟨s.row, s.t.modify p (sizeF n)⟩ ∧ Below B0 w (w.setCell ⟨gt, p * 4 + 3, none⟩ (.int .i64 n)) ∧ KeepK w (w.setCell ⟨gt, p * 4 + 3, none⟩ (.int .i64 n)) := by
 obtain ⟨cs, hcs⟩ := own_typed h.t gt rfl
 have hb0 := own_base h.t gt rfl
 have hne : g ≠ gt := blk_ne h.blk hcs (by decide)
 obtain ⟨es, clock, hm⟩ := map_obj h.map
 have hmne : m ≠ gt := fun e => by subst e; rw [hm] at hcs; cases hcs
 have hrow : w.ownsRow B0 155 7 vr s.row.length (flatO s.row) := h.row
 refine ⟨⟨h.base, blk_far h.blk hne _, ?_, ?_, map_move h.map fun o ho => ?_⟩, (Below.refl B0 w).setCell hb0 _, KeepK.set (p := ⟨gt, p * 4 + 3, none⟩) hcs (by rfl) _⟩
 ·refine own_setCell hrow ?_ _
  rcases own_type_ne h.t hrow (by decide) with h0 | h0
  ·cases h0
  ·exact h0
 ·have := (h.t.stored (p * 4 + 3) (.int .i64 n)).1
  rw [flat56_mod (sizeF n) 3 (by omega) (.int .i64 n) s.t p hp rfl] at this
  simp only [List.length_modify]
  exact this
 ·rw [Below.heap_setCell _ _ _ _ hmne]
  exact ho
theorem top_at (r : List Opn) (n : Nat) (hn : r.length = n + 1) : r.getD n zOpn = topP r := by
 unfold topP
 rw [List.getLast?_eq_getElem?, List.getD_eq_getElem?_getD, hn]
 rfl
set_option pp.maxSteps 3000 in
set_option maxRecDepth 100000 in
set_option maxHeartbeats 8000000 in
theorem shuts_calls (B0 g m : Nat) (vr vt : Value) (s : Bld) (x : S47) (w : World) (hB0 : B0 ≤ w.heap.size) (hn : s.row.length ≤ 999999) (hnt : s.t.length ≤ 999999) (hkb : KindsB s.row) (hpos : PosIn s) (hch : RChain s.row) (hb : BAt w B0 g m vr vt s) :
  Calls Try.prog 94 #[.pointer (some ⟨g, 0, none⟩), .agg #[.int .i64 x.f0, .int .u8 x.f1, .string x.f2, .int .i64 x.f3]] w fun e w' =>
   e = .returned (.tuple #[.int .i64 (shutsP s x).2.1, .int .i64 (shutsP s x).2.2]) ∧ StepTo B0 g m (shutsP s x).1 w w' := by
 obtain ⟨f0, k, f2, f3⟩ := x
 obtain ⟨A, c, rfl⟩ := own_slice hb.row
 have hb1 : Below w.heap.size w (w.alloc (.cells #[.int .i64 f0, .int .u8 k, .string f2, .int .i64 f3] 47)) := (Below.refl _ w).alloc (Nat.le_refl _) _
 have hx := blk_new w (.cells #[.int .i64 f0, .int .u8 k, .string f2, .int .i64 f3] 47)
 have hbx := hb.below hb1
 have hsz : (w.alloc (.cells #[.int .i64 f0, .int .u8 k, .string f2, .int .i64 f3] 47)).heap.size = w.heap.size + 1 := by simp
 obtain ⟨w1, hw1⟩ : ∃ w1, w.alloc (.cells #[.int .i64 f0, .int .u8 k, .string f2, .int .i64 f3] 47) = w1 := ⟨_, rfl⟩
 rw [hw1] at hb1 hx hbx hsz
 have x3 := blk_cell hx 3
 have d0 := blk_cell hbx.blk 0
 simp only [List.getElem?_toArray, List.getElem?_cons_succ, List.getElem?_cons_zero] at x3 d0
 have HB := Lib.hid hbx
 have HB1 := Lib.hid hb1
 have HX := Lib.hid hx
 have HKB := Lib.hid hkb
 have HSZ := Lib.hid hsz
 clear hb hb1 hx hbx hkb hsz
 by_cases h0 : s.row = []
 ·have HO := Lib.hid (show shutsP s ⟨f0, k, f2, f3⟩ = (s, f3, 2) from by unfold shutsP; rw [if_pos h0])
  have h00 : s.row.length = 0 := by rw [h0]; rfl
  rw [h00] at d0
  clear h0 h00
  go_enter Try.func94, Try.ntmps94
  go_wp2
  go_ret2
  refine ⟨by rw [HO.out]; rfl, ?_⟩
  rw [HO.out]
  exact StepTo.mk' HB.out (below_low HB1.out hB0) (KeepK.below HB1.out)
 ·have hp : 0 < s.row.length := List.length_pos_iff.2 h0
  obtain ⟨gr, ca, hae, hao⟩ := rowO_form HB.out.row hp
  simp only [Value.slice.injEq] at hae
  obtain ⟨rfl, -, rfl⟩ := hae
  obtain ⟨n, hn'⟩ : ∃ n, s.row.length = n + 1 := ⟨s.row.length - 1, by omega⟩
  have htop := top_at s.row n hn'
  have hq := fun i hi => rowO_cell hao n i (by omega) hi
  rw [htop] at hq
  have hmem : topP s.row ∈ s.row := by
   rw [← htop, List.getD_eq_getElem?_getD, List.getElem?_eq_getElem (by omega)]
   exact List.getElem_mem _
  obtain ⟨hp0, hp1⟩ := hpos _ hmem
  have htab : (topP s.row).kind = 114 → ∃ j, aroundP [116] s.row.dropLast s.row.dropLast.length = some j := fun h => chain_table hch h
  have HO := Lib.hid (show shutsP s ⟨f0, k, f2, f3⟩ = (⟨(wholeP s.row.dropLast (topP s.row)).1, s.t.modify (topP s.row).pos.toNat (sizeF (s.t.length - (topP s.row).pos))⟩, f3, if (wholeP s.row.dropLast (topP s.row)).2 then 0 else 2) from by unfold shutsP; rw [if_neg h0])
  generalize topP s.row = o at *
  obtain ⟨o0, o1, o2, o3, o4, o5, o6⟩ := o
  simp only at hp0 hp1 htab HO
  obtain ⟨p, rfl⟩ : ∃ p : Nat, o1 = (p : Int) := ⟨o1.toNat, by omega⟩
  have q0 := hq 0 (by omega)
  have q1 := hq 1 (by omega)
  have q2 := hq 2 (by omega)
  have q3 := hq 3 (by omega)
  have q4 := hq 4 (by omega)
  have q5 := hq 5 (by omega)
  have q6 := hq 6 (by omega)
  simp only [cellsO, List.getElem?_cons_succ, List.getElem?_cons_zero, Nat.add_zero] at q0 q1 q2 q3 q4 q5 q6
  have hcap := own_cap hao
  have hT := fun W => top_some gr n c (by omega) W
  have hpl : p < s.t.length := by omega
  have hnl : n ≤ 999998 := by omega
  obtain ⟨gt, ct, rfl, hto⟩ := rowT_form HB.out.t (by omega)
  clear hto
  have HT := Lib.hid hT
  have HN := Lib.hid hn'
  have HTAB := Lib.hid htab
  rw [hn'] at d0 hcap
  clear hT hq hao hmem h0 hp hpos hch htop hn' htab
  go_enter Try.func94, Try.ntmps94
  go_wp2_with (go_at_call 134; (with_reducible refine (HT.out _).mono ?_); rintro e w1 ⟨rfl, rfl⟩)
  have hBA : Below w1.heap.size w1 (w1.alloc (.cells #[.int .u8 o0, .int .i64 p, .int .i64 o2, .int .i64 o3, .bool o4, .int .i64 o5, .int .i64 o6] 155)) := (Below.refl _ _).alloc (Nat.le_refl _) _
  have hO := blk_new w1 (.cells #[.int .u8 o0, .int .i64 p, .int .i64 o2, .int .i64 o3, .bool o4, .int .i64 o5, .int .i64 o6] 155)
  obtain ⟨W1, hW1⟩ : ∃ W1, w1.alloc (.cells #[.int .u8 o0, .int .i64 p, .int .i64 o2, .int .i64 o3, .bool o4, .int .i64 o5, .int .i64 o6] 155) = W1 := ⟨_, rfl⟩
  rw [hW1] at hBA hO ⊢
  obtain ⟨W2, hW2⟩ : ∃ W2, W1.drew = W2 := ⟨_, rfl⟩
  have hb2 : Below w1.heap.size w1 W2 := by rw [← hW2]; exact below_drew1 hBA
  have hO2 : W2.heap[w1.heap.size]? = some (.cells #[.int .u8 o0, .int .i64 p, .int .i64 o2, .int .i64 o3, .bool o4, .int .i64 o5, .int .i64 o6] 155 (0, 0)) := by rw [← hW2]; exact hO
  have HB2 := Lib.hid (HB.out.below hb2)
  have HX2 := Lib.hid (blk_below HX.out hb2)
  have HE2 := Lib.hid (HB1.out.trans (hb2.mono HB1.out.size))
  have HO2 := Lib.hid hO2
  have e0 := blk_cell HB2.out.blk 0
  have ez := blk_frozen HB2.out.blk 0
  simp only [List.getElem?_toArray, List.getElem?_cons_zero] at e0
  rw [HN.out] at e0
  have HE0 := Lib.hid (And.intro e0 ez)
  clear e0 ez hO2 hb2 hO hBA hW1 q0 q1 q2 q3 q4 q5 q6 d0 x3
  have hcap2 : n ≤ c := by omega
  refine Go.Det.region_det (fun W => W = W2) 14 (by kernel_rfl) (by kernel_rfl) (by kernel_rfl) (by decide) hW2 ?_
  clear hW2
  repeat
   apply Go.Det.seqW_cons
   focus
    intro W hS
    obtain rfl : W = W2 := hS
    obtain ⟨e0, ez⟩ := HE0.out
    go_wp2
    exact Go.Det.AtEnd.mk rfl
  refine Go.Det.seqW_nil ?_
  intro W hS
  obtain rfl : W = W2 := hS
  simp only [List.drop_succ_cons, List.drop_zero]
  obtain ⟨e0, ez⟩ := HE0.out
  go_wp2
  have hpop := HB2.out.pop' HN.out
  have hO3 := blk_far HO2.out (p := ⟨g, 0, none⟩) (Ne.symm (blk_ne HB2.out.blk HO2.out (by decide))) (.slice (some ⟨gr, 0, none⟩) n c)
  have hX3 := blk_far HX2.out (p := ⟨g, 0, none⟩) (Ne.symm (blk_ne HB2.out.blk HX2.out (by decide))) (.slice (some ⟨gr, 0, none⟩) n c)
  obtain ⟨W3, hW3⟩ : ∃ W3, W.setCell ⟨g, 0, none⟩ (.slice (some ⟨gr, 0, none⟩) n c) = W3 := ⟨_, rfl⟩
  rw [hW3] at hpop hO3 hX3 ⊢
  clear hW3 e0 ez
  obtain ⟨hb3, hl3, hk3⟩ := hpop
  obtain ⟨W4, hW4⟩ : ∃ W4, W3.drew = W4 := ⟨_, rfl⟩
  have hbd : Below W3.heap.size W3 W4 := by rw [← hW4]; exact below_drew1 (Below.refl _ _)
  have HB4 := Lib.hid (hb3.below hbd)
  have HO4 := Lib.hid (blk_below hO3 hbd)
  have HX4 := Lib.hid (blk_below hX3 hbd)
  have HL4 := Lib.hid (((below_low HE2.out hB0).trans hl3).trans (below_low hbd (Nat.le_trans hB0 (Nat.le_trans HE2.out.size hl3.size))))
  have HK4 := Lib.hid (((KeepK.below HE2.out).trans hk3).trans (KeepK.below hbd))
  have e1 := blk_cell HB4.out.blk 1
  have y1 := blk_cell HO4.out 1
  have ez := World.ownsRow.frozenAt HB4.out.t (p * 4 + 3)
  have et := rowT_cell HB4.out.t p 3 hpl (by omega)
  simp only [nodeC, List.getElem?_toArray, List.getElem?_cons_succ, List.getElem?_cons_zero] at e1 y1 et
  have HQ := Lib.hid (And.intro e1 (And.intro y1 (And.intro ez et)))
  have hpl1 : (p : Int) < (s.t.length : Int) := by omega
  clear hb3 hl3 hk3 hO3 hX3 hbd e1 y1 ez et HB2 HO2 HX2 HE2 HE0 HX HB1 HB
  refine Go.Det.region_det (fun W => W = W4) 16 (by kernel_rfl) (by kernel_rfl) (by kernel_rfl) (by decide) hW4 ?_
  clear hW4
  repeat
   apply Go.Det.seqW_cons
   focus
    intro W hS
    obtain rfl : W = W4 := hS
    obtain ⟨e1, y1, ez, et⟩ := HQ.out
    go_wp2
    exact Go.Det.AtEnd.mk rfl
  refine Go.Det.seqW_nil ?_
  intro W hS
  obtain rfl : W = W4 := hS
  simp only [List.drop_succ_cons, List.drop_zero]
  have hsz := BAt.sized (s := ⟨s.row.dropLast, s.t⟩) HB4.out hpl ((s.t.length : Int) - p)
  have hO5 := blk_far HO4.out (p := ⟨gt, p * 4 + 3, none⟩) (fun e => by
   obtain ⟨cs, hcs⟩ := own_typed HB4.out.t gt rfl
   exact absurd e (blk_ne HO4.out hcs (by decide))) (.int .i64 ((s.t.length : Int) - p))
  have hX5 := blk_far HX4.out (p := ⟨gt, p * 4 + 3, none⟩) (fun e => by
   obtain ⟨cs, hcs⟩ := own_typed HB4.out.t gt rfl
   exact absurd e (blk_ne HX4.out hcs (by decide))) (.int .i64 ((s.t.length : Int) - p))
  have HSZ5 := Lib.hid hsz
  have HO5 := Lib.hid hO5
  have HX5 := Lib.hid hX5
  have o0c := blk_cell hO5 0
  have o1c := blk_cell hO5 1
  have o2c := blk_cell hO5 2
  have o3c := blk_cell hO5 3
  have o4c := blk_cell hO5 4
  have o5c := blk_cell hO5 5
  have o6c := blk_cell hO5 6
  simp only [List.getElem?_toArray, List.getElem?_cons_succ, List.getElem?_cons_zero] at o0c o1c o2c o3c o4c o5c o6c
  obtain ⟨e1, y1, ez, et⟩ := HQ.out
  clear hsz hO5 hX5
  go_wp2_with fail
  have hlow5 := HL4.out.trans HSZ5.out.2.1
  have hkeep5 := HK4.out.trans HSZ5.out.2.2
  have hdl : s.row.dropLast.length = n := by rw [List.length_dropLast, HN.out]; rfl
  refine (whole_calls B0 g m _ _ s.row.dropLast (s.t.modify p (sizeF ((s.t.length : Int) - p))) ⟨o0, p, o2, o3, o4, o5, o6⟩ _ (Nat.le_trans hB0 hlow5.size) (by omega) (fun o ho => HKB.out o (List.dropLast_subset _ ho)) HSZ5.out.1 HTAB.out).mono ?_
  rintro e W6 ⟨rfl, ⟨vr6, vt6, hb6, hl6, hk6⟩⟩
  have HB6 := Lib.hid hb6
  have HL6 := Lib.hid (hlow5.trans hl6)
  have HK6 := Lib.hid (hkeep5.trans hk6)
  have hX6 := hk6 _ _ HX5.out rfl
  have x3 := blk_cell hX6 3
  simp only [List.getElem?_toArray, List.getElem?_cons_succ, List.getElem?_cons_zero] at x3
  rw [Int.toNat_natCast] at HO
  generalize wholeP s.row.dropLast ⟨o0, p, o2, o3, o4, o5, o6⟩ = R at *
  obtain ⟨R1, R2⟩ := R
  clear hb6 hl6 hk6 hX6 hlow5 hkeep5 o0c o1c o2c o3c o4c o5c o6c e1 y1 ez et
  cases R2
  all_goals
   go_wp2
   go_ret2
   refine ⟨by rw [HO.out]; rfl, ?_⟩
   rw [HO.out]
   exact StepTo.mk' HB6.out HL6.out HK6.out
end Go.Proofs.Ythcmfjpheanphaa.Pr
namespace Go.Proofs.Ythcmfjpheanphaa.Pr
open Go.RowKit Go.Proofs.YthcmfjpheanphaaW.PrintWords
theorem heap_new (w : World) (o : Obj) : (w.alloc o).heap[w.heap.size]? = some o := by
 show (w.heap.push o)[w.heap.size]? = some o
 simp
def ofStep (g : List Int) (c : Int) : List Int := g.set (c / 64).toNat (bits .or .u64 (g.getD (c / 64).toNat 0) (IntKind.u64.wrap (2 ^ (c % 64).toNat)))
def ofL (g : List Int) (s : ByteArray) : Nat → List Int
 | 0 => g
 | k + 1 => ofStep (ofL g s k) (bt s k)
theorem ofL_length (g : List Int) (s : ByteArray) : ∀ k, (ofL g s k).length = g.length
 | 0 => rfl
 | k + 1 => by simp [ofL, ofStep, ofL_length g s k]
def u64s (g : List Int) : List Value := g.map (.int .u64)
def Arr4 (W : World) (B : Nat) (g : List Int) : Prop := W.heap[B]? = some (.cells (u64s g).toArray 77 (0, 0))
theorem Arr4.cell {W : World} {B : Nat} {g : List Int} (h : Arr4 W B g) {i : Nat} (hi : i < g.length) : W.cell? ⟨B, i, none⟩ = some (.int .u64 (g.getD i 0)) := by
 unfold Arr4 at h
 simp [World.cell?, h, u64s, hi]
theorem Arr4.frozen {W : World} {B : Nat} {g : List Int} (h : Arr4 W B g) (i : Nat) : W.frozen? ⟨B, i, none⟩ = false := by
 unfold Arr4 at h
 simp [World.frozen?, h]
theorem Arr4.set {W : World} {B : Nat} {g : List Int} (h : Arr4 W B g) (i : Nat) (x : Int) : Arr4 (W.setCell ⟨B, i, none⟩ (.int .u64 x)) B (g.set i x) := by
 unfold Arr4 at *
 have hb := (Array.getElem?_eq_some_iff.1 h)
 simp only [World.setCell, Array.getElem?_modify, if_pos, h]
 simp [u64s, List.map_set]
theorem Arr4.below {W W' : World} {B : Nat} {g : List Int} (h : Arr4 W B g) (hb : Below W.heap.size W W') : Arr4 W' B g := by
 unfold Arr4 at *
 rw [hb.block _ (Array.getElem?_eq_some_iff.1 h).1]; exact h
set_option maxHeartbeats 400000 in
theorem of_calls (s : ByteArray) (w : World) (hs : s.size ≤ 9223372036854775807) :
  Calls Try.prog 128 #[.string s] w fun e w' => e = .returned (.agg (u64s (ofL [0,0,0,0] s s.size)).toArray) ∧ Below w.heap.size w w' := by
 go_enter Try.func128, Try.ntmps128
 go_wp2
 go_loopw [7] (fun v wr => ∃ k : Nat, k ≤ s.size ∧ v = .int .i64 k ∧ Below w.heap.size w wr ∧ w.heap.size + 2 ≤ wr.heap.size ∧ Arr4 wr (w.heap.size + 1) (ofL [0,0,0,0] s k) ∧ Arr4 wr w.heap.size [0,0,0,0]) (fun v _ => s.size - (intOf v).toNat)
 case atStart =>
  refine ⟨0, Nat.zero_le _, rfl, ((Below.refl _ _).alloc (Nat.le_refl _) _).alloc (by simp) _, by simp, ?_, ?_⟩
  ·have := heap_new (w.alloc (.cells #[.int .u64 0, .int .u64 0, .int .u64 0, .int .u64 0] 77)) (.cells #[.int .u64 0, .int .u64 0, .int .u64 0, .int .u64 0] 77)
   rw [World.size_alloc] at this
   exact this
  ·exact (Below.heap_alloc _ _ _ (by simp)).trans (heap_new _ _)
 case round =>
  obtain ⟨k, hk, rfl, hB, hsz, hb, hr⟩ := hrel
  have hlen := ofL_length [0,0,0,0] s k
  by_cases hlt : k < s.size
  ·obtain ⟨c, hc⟩ : ∃ c : Int, ((s[k].toNat : Nat) : Int) = c := ⟨_, rfl⟩
   have hc0 : 0 ≤ c ∧ c < 256 := by rw [← hc]; have := s[k].toNat_lt; omega
   have i0 : 0 ≤ c / 64 := by omega
   have i1 : c / 64 < 4 := by omega
   have hcell := hb.cell (i := (c / 64).toNat) (by rw [hlen]; simp; omega)
   have hfr := hb.frozen (c / 64).toNat
   have h63 : bits .and .u8 c 63 = c % 64 := u8_and63 c hc0.1 hc0.2
   have i2 : 0 ≤ c % 64 := by omega
   have i3 : c % 64 < 64 := by omega
   clear hlen
   go_wp2
   go_region
   go_wp2
   go_roundw
   case rel =>
    refine ⟨k + 1, by omega, by go_num, ?_, by simpa using hsz, ?_, ?_⟩
    ·exact (hB.setCell (by simp) _).drew
    ·have hs1 := hb.set (c / 64).toNat (bits BinOp.or IntKind.u64 ((ofL [0, 0, 0, 0] s k)[(c / 64).toNat]?.getD 0) (IntKind.u64.wrap (2 ^ (c % 64).toNat)))
     have e : ofL [0, 0, 0, 0] s (k + 1) = (ofL [0, 0, 0, 0] s k).set (c / 64).toNat (bits BinOp.or IntKind.u64 ((ofL [0, 0, 0, 0] s k)[(c / 64).toNat]?.getD 0) (IntKind.u64.wrap (2 ^ (c % 64).toNat))) := by
      have hbt : bt s k = c := by rw [← hc]; simp [bt, hlt]
      simp [ofL, ofStep, hbt]
     rw [e]; exact hs1
    ·have := Below.heap_setCell wr ⟨w.heap.size + 1, (c / 64).toNat, none⟩ (.int .u64 (bits BinOp.or IntKind.u64 ((ofL [0, 0, 0, 0] s k)[(c / 64).toNat]?.getD 0) (IntKind.u64.wrap (2 ^ (c % 64).toNat)))) w.heap.size (by simp)
     exact this.trans hr
   case measure => simp [intOf]; omega
  ·obtain rfl : k = s.size := by omega
   obtain ⟨a, b, c, d, hL⟩ : ∃ a b c d, ofL [0,0,0,0] s s.size = [a, b, c, d] := by
    match h : ofL [0,0,0,0] s s.size, hlen with
    | [a, b, c, d], _ => exact ⟨a, b, c, d, rfl⟩
   rw [hL] at hb
   have HL := Lib.hid hL
   clear hL hlen
   have c0 := hb.cell (i := 0) (by simp)
   have c1 := hb.cell (i := 1) (by simp)
   have c2 := hb.cell (i := 2) (by simp)
   have c3 := hb.cell (i := 3) (by simp)
   have r0 := hr.cell (i := 0) (by simp)
   have r1 := hr.cell (i := 1) (by simp)
   have r2 := hr.cell (i := 2) (by simp)
   have r3 := hr.cell (i := 3) (by simp)
   have q0 := hr.frozen 0
   have q1 := hr.frozen 1
   have q2 := hr.frozen 2
   have q3 := hr.frozen 3
   go_wp2
   refine bodyPost_ret (v := .agg #[.int .u64 a, .int .u64 b, .int .u64 c, .int .u64 d]) (by simp [results, Try.results128, go_sem, r0, r1, r2, r3]) rfl ⟨by rw [HL.out]; rfl, ?_⟩
   exact (((hB.setCell (by simp) _).setCell (by simp) _).setCell (by simp) _).setCell (by simp) _
def cLow : Int := 576460743713488896
def cUp : Int := 134217726
def cDig : Int := 287948901175001088
def cMark : Int := 10088330922161078272
def cSp : Int := 4294967296
def cNl : Int := 1024
theorem of_low : ofL [0,0,0,0] ⟨#[97, 98, 99, 100, 101, 102, 103, 104, 105, 106, 107, 108, 109, 110, 111, 112, 113, 114, 115, 116, 117, 118, 119, 120, 121, 122]⟩ 26 = [0, cLow, 0, 0] := by decide +kernel
theorem of_up : ofL [0,0,0,0] ⟨#[65, 66, 67, 68, 69, 70, 71, 72, 73, 74, 75, 76, 77, 78, 79, 80, 81, 82, 83, 84, 85, 86, 87, 88, 89, 90]⟩ 26 = [0, cUp, 0, 0] := by decide +kernel
theorem of_dig : ofL [0,0,0,0] ⟨#[48, 49, 50, 51, 52, 53, 54, 55, 56, 57]⟩ 10 = [cDig, 0, 0, 0] := by decide +kernel
theorem of_mark : ofL [0,0,0,0] ⟨#[46, 44, 59, 58, 33, 63, 39, 34, 45, 40, 41, 47]⟩ 12 = [cMark, 0, 0, 0] := by decide +kernel
theorem of_sp : ofL [0,0,0,0] ⟨#[32]⟩ 1 = [cSp, 0, 0, 0] := by decide +kernel
theorem of_nl : ofL [0,0,0,0] ⟨#[10]⟩ 1 = [cNl, 0, 0, 0] := by decide +kernel
theorem of_c {s : ByteArray} {n : Nat} {a b c d : Int} (hn : s.size = n) (h : ofL [0,0,0,0] s n = [a, b, c, d]) (w : World) (hs : s.size ≤ 9223372036854775807) :
  Calls Try.prog 128 #[.string s] w fun e w' => e = .returned (.agg #[.int .u64 a, .int .u64 b, .int .u64 c, .int .u64 d]) ∧ Below w.heap.size w w' := by
 subst hn
 have := of_calls s w hs
 rw [h] at this
 exact this
set_option maxHeartbeats 400000 in
theorem marks_calls (w : World) : Calls Try.prog 42 #[] w fun e w' => e = .returned (.string ⟨#[46, 44, 59, 58, 33, 63, 39, 34, 45, 40, 41, 47]⟩) ∧ w = w' := by
 go_enter Try.func42, Try.ntmps42
 go_wp2
 go_ret
 exact ⟨rfl, rfl⟩
def clsL : List Int := [0,0,0,0, 0,cLow,0,0, 0,cUp,0,0, cDig,0,0,0, cMark,0,0,0, cSp,0,0,0, cNl,0,0,0]
set_option maxHeartbeats 1000000 in
theorem classes_calls (w : World) :
  Calls Try.prog 77 #[] w fun e w' => e = .returned (.agg (u64s clsL).toArray) ∧ Below w.heap.size w w' := by
 go_enter Try.func77, Try.ntmps77
 go_wp2_with fail
 refine (of_c (by rfl) of_low _ (by decide)).mono ?_
 rintro e w1 ⟨rfl, hb1⟩
 go_wp2_with fail
 refine (of_c (by rfl) of_up _ (by decide)).mono ?_
 rintro e w2 ⟨rfl, hb2⟩
 go_wp2_with fail
 refine (of_c (by rfl) of_dig _ (by decide)).mono ?_
 rintro e w3 ⟨rfl, hb3⟩
 go_wp2_with fail
 refine (marks_calls _).mono ?_
 rintro e w4 ⟨rfl, rfl⟩
 go_wp2_with fail
 refine (of_c (by rfl) of_mark _ (by decide)).mono ?_
 rintro e w4 ⟨rfl, hb4⟩
 go_wp2_with fail
 refine (of_c (by rfl) of_sp _ (by decide)).mono ?_
 rintro e w5 ⟨rfl, hb5⟩
 go_wp2_with fail
 refine (of_c (by rfl) of_nl _ (by decide)).mono ?_
 rintro e w6 ⟨rfl, hb6⟩
 have hba := ((((hb1.trans (hb2.mono hb1.size)).trans (hb3.mono (hb1.trans (hb2.mono hb1.size)).size)).trans (hb4.mono ((hb1.trans (hb2.mono hb1.size)).trans (hb3.mono (hb1.trans (hb2.mono hb1.size)).size)).size)))
 have hbb := hba.trans (hb5.mono hba.size)
 have hbc := hbb.trans (hb6.mono hbb.size)
 have hg : w6.heap[w.heap.size]? = some (.cells (u64s (List.replicate 28 0)).toArray 78 (0, 0)) := (hbc.block w.heap.size (by simp)).trans (heap_new _ _)
 have hbz : Below w.heap.size w w6 := ((Below.refl _ w).alloc (Nat.le_refl _) _).trans (hbc.mono (by simp))
 clear hb1 hb2 hb3 hb4 hb5 hb6 hba hbb hbc
 have Hg := Lib.hid hg
 clear hg
 go_wp2_with (refine wpList_store_row rfl 78 (.tmp 0) (.tmp 8) rfl w.heap.size _ rfl rfl 78 _ Hg.out ?h1 ?h2 ?h3 ?h4)
 case h1 => kernel_rfl
 case h2 => rfl
 case h3 => simp [Value.oneCell']
 case h4 =>
  refine bodyPost_ret (results_cell_row rfl _ _ w.heap.size 78 (u64s clsL).toArray (0, 0) _ rfl ?_ Try.underlying78 rfl (by kernel_rfl)) rfl ⟨rfl, ?_⟩
  ·exact setRow_heap _ _ _ _ _ _ Hg.out
  ·exact hbz.trans ⟨rfl, rfl, rfl, by simp, fun k hk => by simp only [World.setRow, Array.getElem?_modify]; rw [if_neg (by omega)]⟩
def hasB (g : List Int) (c : Int) : Bool := bits .and .u64 (g.getD (c / 64).toNat 0 / 2 ^ (c % 64).toNat) 1 == 1
set_option maxHeartbeats 1000000 in
theorem has_calls (a b c d x : Int) (w : World) (hx : 0 ≤ x) (hx1 : x < 256) :
  Calls Try.prog 78 #[.agg #[.int .u64 a, .int .u64 b, .int .u64 c, .int .u64 d], .int .u8 x] w fun e w' => e = .returned (.bool (hasB [a, b, c, d] x)) ∧ Below w.heap.size w w' := by
 have hz : Arr4 (w.alloc (.cells #[.int .u64 a, .int .u64 b, .int .u64 c, .int .u64 d] 77)) w.heap.size [a, b, c, d] := heap_new _ _
 have i0 : 0 ≤ x / 64 := by omega
 have i1 : x / 64 < 4 := by omega
 have hcell := hz.cell (i := (x / 64).toNat) (by simp; omega)
 have h63 : bits .and .u8 x 63 = x % 64 := u8_and63 x hx hx1
 have i2 : 0 ≤ x % 64 := by omega
 have i3 : x % 64 < 64 := by omega
 go_enter Try.func78, Try.ntmps78
 go_wp2
 go_ret
 exact ⟨by simp [hasB, List.getD_eq_getElem?_getD, List.getElem?_eq_getElem (show (x / 64).toNat < [a, b, c, d].length by simp; omega)], (Below.refl _ w).alloc (Nat.le_refl _) _⟩
def seg (j : Nat) : List Int := (clsL.drop (4 * j)).take 4
def classB (c : Int) : Int := if hasB (seg 0) c then 0 else if hasB (seg 1) c then 1 else if hasB (seg 2) c then 2 else if hasB (seg 3) c then 3 else if hasB (seg 4) c then 4 else if hasB (seg 5) c then 5 else if hasB (seg 6) c then 6 else 0
def classP (c : Int) : Int := if 97 ≤ c ∧ c ≤ 122 then 1 else if 65 ≤ c ∧ c ≤ 90 then 2 else if 48 ≤ c ∧ c ≤ 57 then 3 else if c = 32 then 5 else if c = 10 then 6
 else if c ∈ [46, 44, 59, 58, 33, 63, 39, 34, 45, 40, 41, 47] then 4 else 0
theorem classB_fin : ∀ n : Fin 256, classB (n.val : Int) = classP (n.val : Int) := by decide +kernel
theorem classB_eq (c : Int) (h0 : 0 ≤ c) (h1 : c < 256) : classB c = classP c := by
 have := classB_fin ⟨c.toNat, by omega⟩
 simpa [Int.toNat_of_nonneg h0] using this
set_option maxRecDepth 100000 in
theorem idx_run0 (w : World) : (Instr.index 78 (.agg (u64s clsL).toArray) (.int .i64 (0 : Nat))).run Try.prog w = .ok (.agg (u64s (seg 0)).toArray) w := by kernel_rfl
set_option maxRecDepth 100000 in
theorem idx_run1 (w : World) : (Instr.index 78 (.agg (u64s clsL).toArray) (.int .i64 (1 : Nat))).run Try.prog w = .ok (.agg (u64s (seg 1)).toArray) w := by kernel_rfl
set_option maxRecDepth 100000 in
theorem idx_run2 (w : World) : (Instr.index 78 (.agg (u64s clsL).toArray) (.int .i64 (2 : Nat))).run Try.prog w = .ok (.agg (u64s (seg 2)).toArray) w := by kernel_rfl
set_option maxRecDepth 100000 in
theorem idx_run3 (w : World) : (Instr.index 78 (.agg (u64s clsL).toArray) (.int .i64 (3 : Nat))).run Try.prog w = .ok (.agg (u64s (seg 3)).toArray) w := by kernel_rfl
set_option maxRecDepth 100000 in
theorem idx_run4 (w : World) : (Instr.index 78 (.agg (u64s clsL).toArray) (.int .i64 (4 : Nat))).run Try.prog w = .ok (.agg (u64s (seg 4)).toArray) w := by kernel_rfl
set_option maxRecDepth 100000 in
theorem idx_run5 (w : World) : (Instr.index 78 (.agg (u64s clsL).toArray) (.int .i64 (5 : Nat))).run Try.prog w = .ok (.agg (u64s (seg 5)).toArray) w := by kernel_rfl
set_option maxRecDepth 100000 in
theorem idx_run6 (w : World) : (Instr.index 78 (.agg (u64s clsL).toArray) (.int .i64 (6 : Nat))).run Try.prog w = .ok (.agg (u64s (seg 6)).toArray) w := by kernel_rfl
theorem idx_run (j : Nat) (hj : j < 7) (w : World) : (Instr.index 78 (.agg (u64s clsL).toArray) (.int .i64 j)).run Try.prog w = .ok (.agg (u64s (seg j)).toArray) w := by
 have hj' : j = 0 ∨ j = 1 ∨ j = 2 ∨ j = 3 ∨ j = 4 ∨ j = 5 ∨ j = 6 := by omega
 rcases hj' with rfl | rfl | rfl | rfl | rfl | rfl | rfl
 ·exact idx_run0 w
 ·exact idx_run1 w
 ·exact idx_run2 w
 ·exact idx_run3 w
 ·exact idx_run4 w
 ·exact idx_run5 w
 ·exact idx_run6 w
theorem seg_form (j : Nat) (hj : j < 7) : ∃ a b c d, seg j = [a, b, c, d] := by
 have hj' : j = 0 ∨ j = 1 ∨ j = 2 ∨ j = 3 ∨ j = 4 ∨ j = 5 ∨ j = 6 := by omega
 rcases hj' with rfl | rfl | rfl | rfl | rfl | rfl | rfl
 all_goals exact ⟨_, _, _, _, rfl⟩
theorem classB_at (x : Int) (k : Nat) (hk : k < 7) (h : hasB (seg k) x = true) (hno : ∀ j, j < k → hasB (seg j) x = false) : classB x = k := by
 have hj' : k = 0 ∨ k = 1 ∨ k = 2 ∨ k = 3 ∨ k = 4 ∨ k = 5 ∨ k = 6 := by omega
 unfold classB
 rcases hj' with rfl | rfl | rfl | rfl | rfl | rfl | rfl
 ·rw [h]; rfl
 ·rw [h, hno 0 (by omega)]; rfl
 ·rw [h, hno 0 (by omega), hno 1 (by omega)]; rfl
 ·rw [h, hno 0 (by omega), hno 1 (by omega), hno 2 (by omega)]; rfl
 ·rw [h, hno 0 (by omega), hno 1 (by omega), hno 2 (by omega), hno 3 (by omega)]; rfl
 ·rw [h, hno 0 (by omega), hno 1 (by omega), hno 2 (by omega), hno 3 (by omega), hno 4 (by omega)]; rfl
 ·rw [h, hno 0 (by omega), hno 1 (by omega), hno 2 (by omega), hno 3 (by omega), hno 4 (by omega), hno 5 (by omega)]; rfl
theorem classB_no (x : Int) (hno : ∀ j, j < 7 → hasB (seg j) x = false) : classB x = 0 := by
 unfold classB
 rw [hno 0 (by omega), hno 1 (by omega), hno 2 (by omega), hno 3 (by omega), hno 4 (by omega), hno 5 (by omega), hno 6 (by omega)]; rfl
set_option maxHeartbeats 1000000 in
theorem class_calls (x : Int) (w : World) (hx : 0 ≤ x) (hx1 : x < 256) :
  Calls Try.prog 24 #[.int .u8 x] w fun e w' => e = .returned (.int .i64 (classB x)) ∧ Below w.heap.size w w' := by
 go_enter Try.func24, Try.ntmps24
 go_wp2_with (go_at_call 77; refine (classes_calls _).mono ?_; rintro e w1 ⟨rfl, hb1⟩)
 generalize hv : (Value.agg (u64s clsL).toArray) = V5
 have HV := Lib.hid hv
 clear hv
 go_loopw [6] (fun v wr => ∃ k : Nat, k ≤ 7 ∧ v = .int .i64 k ∧ Below w.heap.size w wr ∧ ∀ j, j < k → hasB (seg j) x = false) (fun v _ => 7 - (intOf v).toNat)
 case atStart => exact ⟨0, by omega, rfl, hb1, fun j hj => by omega⟩
 case round =>
  obtain ⟨k, hk, rfl, hB, hno⟩ := hrel
  have Hno := Lib.hid hno
  clear hno
  by_cases hlt : k < 7
  ·have hix := fun w => idx_run k hlt w
   rw [HV.out] at hix
   have hlt2 : decide ((k : Int) < 7) = true := by simp; omega
   obtain ⟨a, b, c, d, hs⟩ := seg_form k hlt
   rw [hs] at hix
   have hix' : ∀ (w : World), Sem.run Try.prog (Instr.index 78 V5 (Value.int IntKind.i64 ↑k)) w = Result.ok (.agg #[.int .u64 a, .int .u64 b, .int .u64 c, .int .u64 d]) w := hix
   clear hix
   have HS := Lib.hid hs
   clear hs
   cases hh : hasB (seg k) x with
   | true =>
    have HH := Lib.hid hh
    clear hh
    have hc2 := fun w => has_calls a b c d x w hx hx1
    rw [← HS.out, HH.out] at hc2
    have HC2 := Lib.hid hc2
    clear hc2
    go_wp2_with (go_at_call 78; refine (HC2.out _).mono ?_; rintro e w2 ⟨rfl, hb2⟩)
    go_ret
    exact ⟨by rw [classB_at x k hlt HH.out Hno.out]; rfl, (hB.alloc hB.size _).trans (hb2.mono (by simp; exact Nat.le_succ_of_le hB.size))⟩
   | false =>
    have HH := Lib.hid hh
    clear hh
    have hc2 := fun w => has_calls a b c d x w hx hx1
    rw [← HS.out, HH.out] at hc2
    have HC2 := Lib.hid hc2
    clear hc2
    go_wp2_with (go_at_call 78; refine (HC2.out _).mono ?_; rintro e w2 ⟨rfl, hb2⟩)
    go_roundw
    case rel =>
     refine ⟨k + 1, by omega, by go_num, (hB.alloc hB.size _).trans (hb2.mono (by simp; exact Nat.le_succ_of_le hB.size)), fun j hj => ?_⟩
     rcases Nat.lt_or_ge j k with h | h
     ·exact Hno.out j h
     ·obtain rfl : j = k := by omega
      exact HH.out
    case measure => simp [intOf]; omega
  ·have hlt2 : decide ((k : Int) < 7) = false := by simp; omega
   go_wp2
   go_ret
   obtain rfl : k = 7 := by omega
   exact ⟨by rw [classB_no x Hno.out]; rfl, hB⟩
def chars_Class.f (a0 : Int) : Option Int := if 0 ≤ a0 ∧ a0 < 256 then some (classP a0) else none
theorem chars_Class.calls (a0 : Int) (r : Int) (w : World) (h : chars_Class.f a0 = some r) :
  Calls Try.prog 24 #[.int .u8 a0] w fun e w' => e = .returned (.int .i64 r) ∧ Below w.heap.size w w' := by
 unfold chars_Class.f at h
 split at h
 ·rename_i hc
  obtain rfl := Option.some.inj h
  rw [← classB_eq a0 hc.1 hc.2]
  exact class_calls a0 w hc.1 hc.2
 ·cases h
end Go.Proofs.Ythcmfjpheanphaa.Pr
namespace Go.Proofs.Ythcmfjpheanphaa.Pr
open Go.RowKit Go.Proofs.YthcmfjpheanphaaW.PrintWords Go.Proofs.YthcmfjpheanphaaW.PrintLast Go.Proofs.YthcmfjpheanphaaW.PrintMore
attribute [local go_sem] max2_int min2_int max_two min_two max_three min_three max_four min_four
theorem eqA27 (d : Nat) (w : World) (x0 y0 : Int) (x1 y1 : ByteArray) :
  (Op.equalIn (d + 2) 27 (.agg #[.int .i64 x0, .string x1]) (.agg #[.int .i64 y0, .string y1])).run Try.prog w = .ok (x0 == y0 && (x1.toList == y1.toList)) w := by
 refine eqA_of Try.underlying27 (by kernel_rfl) ?_
 refine eqf_cons (by rfl) (by go_simp; rfl) (by go_simp; rfl) (by go_simp) ?_
 exact eqf_last (by rfl) (by go_simp; rfl) (by go_simp; rfl) (by go_simp)
end Go.Proofs.Ythcmfjpheanphaa.Pr
namespace Go.Proofs.Ythcmfjpheanphaa.Pr
open Go.RowKit Go.Shelf Go.Proofs.YthcmfjpheanphaaW.PrintWords
attribute [local go_sem] Oper.semAt_some
def clsAt (s : ByteArray) (i : Nat) : Int := classP (bt s i)
def runTo (s : ByteArray) (c : Int) : Nat → Nat → Nat
 | 0, q => q
 | d + 1, q => if q < s.size ∧ clsAt s q = c then runTo s c d (q + 1) else q
def runsL (s : ByteArray) : Nat → Nat → List S27
 | 0, _ => []
 | d + 1, i => if i < s.size then
   ⟨i, s.extract i (runTo s (clsAt s i) s.size (i + 1))⟩ :: runsL s d (runTo s (clsAt s i) s.size (i + 1)) else []
def KB (B : Nat) (W W' : World) : Prop := W'.heap[B]? = W.heap[B]?
theorem boxed_keptB {W W' : World} {B : Nat} {t : TypeId} {v : Value} (h : Boxed W B t v) (hk : KB B W W') : Boxed W' B t v := Eq.trans hk h
theorem boxed_below {W W' : World} {B : Nat} {t : TypeId} {v : Value} (h : Boxed W B t v) (hb : Below W.heap.size W W') : Boxed W' B t v := h.kept (grown_of_below hb none) (by simp)
theorem boxed_own' {β : Type} (B : Nat) (t : TypeId) (v : Value) : Own (fun (_ : β) W => Boxed W B t v) := boxed_own B t (fun _ => v)
theorem cells_new (w : World) (cs : List Value) (t : TypeId) : ∀ j u, cs[j]? = some u → (w.alloc (.cells cs.toArray t)).cell? ((⟨w.heap.size, 0, none⟩ : Addr).add j) = some u := by
 intro j u hj
 rw [add_plain]
 simp only [World.cell?, heap_new]
 simpa using hj
def styluslaw01_runs.f (a0 : ByteArray) : Option (List S27 × Bool) := if a0.size ≤ 1000000 then some (runsL a0 a0.size 0, true) else none
def caseRuns : List S27 → Int → Int → Bool → Option (Int × Int × Bool)
 | [], sm, rs, fi => some (sm, rs, fi)
 | x :: xs, sm, rs, fi =>
  if classP (bt x.f1 0) = 1 then caseRuns xs (sm + x.f1.size) rs fi
  else if classP (bt x.f1 0) = 2 then (if x.f0 = 0 then caseRuns xs sm (rs + x.f1.size - 1) true else caseRuns xs sm (rs + x.f1.size) fi)
  else none
def caseOut (s : ByteArray) : Option (Int × Int × Bool) → Int
 | none => 0
 | some (sm, rs, fi) => if s.size = 0 then 0 else if sm = s.size then 1 else if fi = true ∧ rs = 0 then 2 else if sm = 0 then 3 else 4
theorem boxed_drew {W : World} {B : Nat} {t : TypeId} {v : Value} (h : Boxed W B t v) : Boxed W.drew B t v := h
theorem empty_size (s : ByteArray) : s.toList.isEmpty = decide (s.size = 0) := by
 rw [ByteArray.toList_eq]
 cases h : s.data.toList with
 | nil =>
  have : s.size = 0 := by
   show s.data.size = 0
   rw [← Array.length_toList, h]; rfl
  rw [this]; rfl
 | cons a l =>
  have : s.size = l.length + 1 := by
   show s.data.size = _
   rw [← Array.length_toList, h]; rfl
  rw [this]; rfl
def chars_Case.f (a0 : ByteArray) : Option Int := if a0.size ≤ 1000000 then some (caseOut a0 (caseRuns (runsL a0 a0.size 0) 0 0 false)) else none
end Go.Proofs.Ythcmfjpheanphaa.Pr
namespace Go.Proofs.Ythcmfjpheanphaa.Pr
open Go.RowKit Go.Proofs.YthcmfjpheanphaaW.PrintWords Go.Proofs.YthcmfjpheanphaaW.PrintLast Go.Proofs.YthcmfjpheanphaaW.PrintMore
attribute [local go_sem] max2_int min2_int max_two min_two max_three min_three max_four min_four
attribute [local go_sem high] eqA27
def chars_Marks.f  : Option (ByteArray) := some (⟨#[46, 44, 59, 58, 33, 63, 39, 34, 45, 40, 41, 47]⟩ : ByteArray)
def styluslaw01_same.l0 : Nat → List (S27) → List (S27) → Int → Option (Bool)
 | 0, _, _, _ => none
 | k + 1, x0, x1, x5 => if x5 < (x0.length : Int) then (if 0 ≤ x5 then (if x5 < (x1.length : Int) then (if (!(((rd_T27 x0 x5).f0) == ((rd_T27 x1 x5).f0)) || (!((((rd_T27 x0 x5).f1).toList) == (((rd_T27 x1 x5).f1).toList)))) = true then (some false) else (styluslaw01_same.l0 k x0 x1 (wrap64 (x5 + 1)))) else (none)) else (none)) else (some true)
def styluslaw01_same.f (k : Nat) (l0 : List (S27)) (l1 : List (S27)) : Option (Bool) := if (l0.length : Int) = (l1.length : Int) then (styluslaw01_same.l0 k l0 l1 0) else (some false)
theorem styluslaw01_same.mono_l : ∀ k, (∀ y0 y1 y2, LeO (styluslaw01_same.l0 k y0 y1 y2) (styluslaw01_same.l0 (k + 1) y0 y1 y2))
 | 0 => fun _ _ _ r h => by simp [styluslaw01_same.l0] at h
 | k + 1 => by
  have ih0 := styluslaw01_same.mono_l k
  ·intro y0 y1 y2
   unfold styluslaw01_same.l0
   repeat' first
   | (with_reducible exact ih0 _ _ _)
   | (with_reducible exact LeO.refl _)
   | (with_reducible exact LeO.none _)
   | (with_reducible refine LeO.ite ?_ ?_)
   | (with_reducible refine LeO.bind ?_ (fun _ => ?_))
   | exact ih0 _ _ _
   | exact LeO.none _
   | refine LeO.ite ?_ ?_
   | refine LeO.bind ?_ (fun _ => ?_)
theorem styluslaw01_same.mono : ∀ a0 a1 k, LeO (styluslaw01_same.f k a0 a1) (styluslaw01_same.f (k + 1) a0 a1) := by
 intro a0 a1 k
 have ih0 := styluslaw01_same.mono_l k
 unfold styluslaw01_same.f
 repeat' first
   | (with_reducible exact ih0 _ _ _)
   | (with_reducible exact LeO.refl _)
   | (with_reducible exact LeO.none _)
   | (with_reducible refine LeO.ite ?_ ?_)
   | (with_reducible refine LeO.bind ?_ (fun _ => ?_))
   | exact ih0 _ _ _
   | exact LeO.none _
   | refine LeO.ite ?_ ?_
   | refine LeO.bind ?_ (fun _ => ?_)
def chars_Lower.f (a0 : Int) : Option (Int) := (chars_Class.f a0).bind fun t103 => (if t103 = 2 then (some (Go.bits .or .u8 a0 32)) else (some a0))
def chars_Upper.f (a0 : Int) : Option (Int) := (chars_Class.f a0).bind fun t104 => (if t104 = 1 then (some (Go.bits .andNot .u8 a0 32)) else (some a0))
def styluslaw01_awake.f (k : Nat)  : Option (Bool) := (styluslaw01_runs.f (⟨#[97, 98, 49, 46, 50]⟩ : ByteArray)).bind fun bt105 => ((chars_Class.f 97).bind fun t109 => (if t109 = 1 then ((chars_Class.f 90).bind fun t110 => (if t110 = 2 then ((chars_Class.f 55).bind fun t111 => (if t111 = 3 then ((chars_Class.f 47).bind fun t112 => (if t112 = 4 then ((chars_Class.f 32).bind fun t113 => (if t113 = 5 then ((chars_Class.f 10).bind fun t114 => (if t114 = 6 then ((chars_Class.f 123).bind fun t115 => (if t115 = 0 then ((chars_Lower.f 81).bind fun t116 => (if t116 = 113 then ((chars_Upper.f 113).bind fun t117 => (if t117 = 81 then ((chars_Lower.f 63).bind fun t118 => (if t118 = 63 then ((chars_Case.f (⟨#[97, 98]⟩ : ByteArray)).bind fun t119 => (if t119 = 1 then ((chars_Case.f (⟨#[65, 98]⟩ : ByteArray)).bind fun t120 => (if t120 = 2 then ((chars_Case.f (⟨#[65]⟩ : ByteArray)).bind fun t121 => (if t121 = 2 then ((chars_Case.f (⟨#[65, 66]⟩ : ByteArray)).bind fun t122 => (if t122 = 3 then ((chars_Case.f (⟨#[97, 66]⟩ : ByteArray)).bind fun t123 => (if t123 = 4 then ((chars_Case.f (⟨#[97, 49]⟩ : ByteArray)).bind fun t124 => (if t124 = 0 then ((chars_Case.f (⟨#[]⟩ : ByteArray)).bind fun t125 => (if t125 = 0 then (if bt105.2 = true then ((styluslaw01_same.f k bt105.1 (([(⟨0, (⟨#[97, 98]⟩ : ByteArray)⟩ : S27), (⟨2, (⟨#[49]⟩ : ByteArray)⟩ : S27), (⟨3, (⟨#[46]⟩ : ByteArray)⟩ : S27), (⟨4, (⟨#[50]⟩ : ByteArray)⟩ : S27)] : List (S27)))).bind fun t129 => (some t129)) else (some false)) else (some false))) else (some false))) else (some false))) else (some false))) else (some false))) else (some false))) else (some false))) else (some false))) else (some false))) else (some false))) else (some false))) else (some false))) else (some false))) else (some false))) else (some false))) else (some false))) else (some false)))
theorem styluslaw01_awake.mono : ∀ k, LeO (styluslaw01_awake.f k ) (styluslaw01_awake.f (k + 1) ) := by
 intro  k
 unfold styluslaw01_awake.f
 repeat' first
   | (with_reducible exact styluslaw01_same.mono _ _ _)
   | (with_reducible exact LeO.refl _)
   | (with_reducible exact LeO.none _)
   | (with_reducible refine LeO.ite ?_ ?_)
   | (with_reducible refine LeO.bind ?_ (fun _ => ?_))
   | exact styluslaw01_same.mono _ _ _
   | exact LeO.none _
   | refine LeO.ite ?_ ?_
   | refine LeO.bind ?_ (fun _ => ?_)
def stylusref01_Marks.f  : Option (ByteArray) := some (⟨#[46, 44, 59, 58, 33, 63, 39, 34, 45, 40, 41, 47]⟩ : ByteArray)
set_option maxHeartbeats 8000000 in
set_option maxRecDepth 100000 in
theorem stylusref01_Marks.calls  (r : ByteArray) (w : World) (h : stylusref01_Marks.f  = some r) :
  Calls Try.prog 43 #[] w fun e w' => e = .returned (.string r) ∧ Drawn0 w w' := by
 have H : (some (⟨#[46, 44, 59, 58, 33, 63, 39, 34, 45, 40, 41, 47]⟩ : ByteArray)) = some r := h
 clear h
 obtain rfl := Option.some.inj H
 go_enter Try.func43, Try.ntmps43
 go_wp2
 go_ret
 exact ⟨by first | rfl | (simp; done) | (simp [*]; done), by repeat (first | exact Drawn0.refl _ | apply Drawn0.step)⟩
end Go.Proofs.Ythcmfjpheanphaa.Pr
namespace Go.Proofs.Ythcmfjpheanphaa.Pr
open Go.RowKit Go.Proofs.YthcmfjpheanphaaW.PrintWords Go.Proofs.YthcmfjpheanphaaW.PrintLast Go.Proofs.YthcmfjpheanphaaW.PrintMore
attribute [local go_sem] max2_int min2_int max_two min_two max_three min_three max_four min_four
mutual
def stylusref01_Class.j0 : Nat → Int → Bool → Option (Int)
 | 0, _, _ => none
 | k + 1, x0, x10 => if x10 = true then (some 1) else (if x0 ≥ 65 then (stylusref01_Class.j1 k x0 (decide (x0 ≤ 90))) else (stylusref01_Class.j1 k x0 false))
def stylusref01_Class.j1 : Nat → Int → Bool → Option (Int)
 | 0, _, _ => none
 | k + 1, x0, x16 => if x16 = true then (some 2) else (if x0 ≥ 48 then (stylusref01_Class.j2 k x0 (decide (x0 ≤ 57))) else (stylusref01_Class.j2 k x0 false))
def stylusref01_Class.j2 : Nat → Int → Bool → Option (Int)
 | 0, _, _ => none
 | k + 1, x0, x22 => if x22 = true then (some 3) else (if x0 = 32 then (some 5) else (if x0 = 10 then (some 6) else ((stylusref01_Marks.f).bind fun t130 => (stylusref01_Class.l0 k x0 t130 0))))
def stylusref01_Class.l0 : Nat → Int → ByteArray → Int → Option (Int)
 | 0, _, _, _ => none
 | k + 1, x0, x3, x4 => if x4 < (x3.size : Int) then (if 0 ≤ x4 then (if (bt x3 x4) = x0 then (some 4) else (stylusref01_Class.l0 k x0 x3 (wrap64 (x4 + 1)))) else (none)) else (some 0)
end
def stylusref01_Class.f (k : Nat) (a0 : Int) : Option (Int) := if a0 ≥ 97 then (stylusref01_Class.j0 k a0 (decide (a0 ≤ 122))) else (stylusref01_Class.j0 k a0 false)
theorem stylusref01_Class.mono_l : ∀ k, (∀ y0 y1, LeO (stylusref01_Class.j0 k y0 y1) (stylusref01_Class.j0 (k + 1) y0 y1)) ∧ (∀ y0 y1, LeO (stylusref01_Class.j1 k y0 y1) (stylusref01_Class.j1 (k + 1) y0 y1)) ∧ (∀ y0 y1, LeO (stylusref01_Class.j2 k y0 y1) (stylusref01_Class.j2 (k + 1) y0 y1)) ∧ (∀ y0 y1 y2, LeO (stylusref01_Class.l0 k y0 y1 y2) (stylusref01_Class.l0 (k + 1) y0 y1 y2))
 | 0 => ⟨fun _ _ r h => by simp [stylusref01_Class.j0] at h, fun _ _ r h => by simp [stylusref01_Class.j1] at h, fun _ _ r h => by simp [stylusref01_Class.j2] at h, fun _ _ _ r h => by simp [stylusref01_Class.l0] at h⟩
 | k + 1 => by
  obtain ⟨ih0, ih1, ih2, ih3⟩ := stylusref01_Class.mono_l k
  refine ⟨?_, ?_, ?_, ?_⟩
  ·intro y0 y1
   unfold stylusref01_Class.j0
   repeat' first
   | (with_reducible exact ih0 _ _)
   | (with_reducible exact ih1 _ _)
   | (with_reducible exact ih2 _ _)
   | (with_reducible exact ih3 _ _ _)
   | (with_reducible exact LeO.refl _)
   | (with_reducible exact LeO.none _)
   | (with_reducible refine LeO.ite ?_ ?_)
   | (with_reducible refine LeO.bind ?_ (fun _ => ?_))
   | exact ih0 _ _
   | exact ih1 _ _
   | exact ih2 _ _
   | exact ih3 _ _ _
   | exact LeO.none _
   | refine LeO.ite ?_ ?_
   | refine LeO.bind ?_ (fun _ => ?_)
  ·intro y0 y1
   unfold stylusref01_Class.j1
   repeat' first
   | (with_reducible exact ih0 _ _)
   | (with_reducible exact ih1 _ _)
   | (with_reducible exact ih2 _ _)
   | (with_reducible exact ih3 _ _ _)
   | (with_reducible exact LeO.refl _)
   | (with_reducible exact LeO.none _)
   | (with_reducible refine LeO.ite ?_ ?_)
   | (with_reducible refine LeO.bind ?_ (fun _ => ?_))
   | exact ih0 _ _
   | exact ih1 _ _
   | exact ih2 _ _
   | exact ih3 _ _ _
   | exact LeO.none _
   | refine LeO.ite ?_ ?_
   | refine LeO.bind ?_ (fun _ => ?_)
  ·intro y0 y1
   unfold stylusref01_Class.j2
   repeat' first
   | (with_reducible exact ih0 _ _)
   | (with_reducible exact ih1 _ _)
   | (with_reducible exact ih2 _ _)
   | (with_reducible exact ih3 _ _ _)
   | (with_reducible exact LeO.refl _)
   | (with_reducible exact LeO.none _)
   | (with_reducible refine LeO.ite ?_ ?_)
   | (with_reducible refine LeO.bind ?_ (fun _ => ?_))
   | exact ih0 _ _
   | exact ih1 _ _
   | exact ih2 _ _
   | exact ih3 _ _ _
   | exact LeO.none _
   | refine LeO.ite ?_ ?_
   | refine LeO.bind ?_ (fun _ => ?_)
  ·intro y0 y1 y2
   unfold stylusref01_Class.l0
   repeat' first
   | (with_reducible exact ih0 _ _)
   | (with_reducible exact ih1 _ _)
   | (with_reducible exact ih2 _ _)
   | (with_reducible exact ih3 _ _ _)
   | (with_reducible exact LeO.refl _)
   | (with_reducible exact LeO.none _)
   | (with_reducible refine LeO.ite ?_ ?_)
   | (with_reducible refine LeO.bind ?_ (fun _ => ?_))
   | exact ih0 _ _
   | exact ih1 _ _
   | exact ih2 _ _
   | exact ih3 _ _ _
   | exact LeO.none _
   | refine LeO.ite ?_ ?_
   | refine LeO.bind ?_ (fun _ => ?_)
theorem stylusref01_Class.mono : ∀ a0 k, LeO (stylusref01_Class.f k a0) (stylusref01_Class.f (k + 1) a0) := by
 intro a0 k
 obtain ⟨ih0, ih1, ih2, ih3⟩ := stylusref01_Class.mono_l k
 unfold stylusref01_Class.f
 repeat' first
   | (with_reducible exact ih0 _ _)
   | (with_reducible exact ih1 _ _)
   | (with_reducible exact ih2 _ _)
   | (with_reducible exact ih3 _ _ _)
   | (with_reducible exact LeO.refl _)
   | (with_reducible exact LeO.none _)
   | (with_reducible refine LeO.ite ?_ ?_)
   | (with_reducible refine LeO.bind ?_ (fun _ => ?_))
   | exact ih0 _ _
   | exact ih1 _ _
   | exact ih2 _ _
   | exact ih3 _ _ _
   | exact LeO.none _
   | refine LeO.ite ?_ ?_
   | refine LeO.bind ?_ (fun _ => ?_)
set_option maxHeartbeats 8000000 in
set_option maxRecDepth 100000 in
theorem stylusref01_Class.calls (k : Nat) (a0 : Int) (r : Int) (w : World) (h : stylusref01_Class.f k a0 = some r) :
  Calls Try.prog 32 #[.int .u8 a0] w fun e w' => e = .returned (.int .i64 r) ∧ Drawn0 w w' := by
 have H : (if a0 ≥ 97 then (stylusref01_Class.j0 k a0 (decide (a0 ≤ 122))) else (stylusref01_Class.j0 k a0 false)) = some r := h
 clear h
 have HC2 := Aside0.mk H
 clear H
 go_enter Try.func32, Try.ntmps32
 go_upto_region 1 with (fail)
 go_cut [10] (fun v10 wc => ∃ (kq : Nat) (x10_1 : Bool), v10 = .bool x10_1 ∧ Aside0 (stylusref01_Class.j0 kq a0 x10_1 = some r) ∧ Aside0 (kq ≤ k) ∧ Drawn0 w wc)
 case first =>
  have H := HC2.out
  clear HC2
  by_cases c3 : a0 ≥ 97
  ·rw [if_pos c3] at H
   have c3b0 : decide (97 ≤ a0) = true := decide_eq_true c3
   clear c3
   (first | rw [c3b0] | (simp only [i64_w, i32_w]; rw [c3b0]) | skip)
   have H' := Aside0.mk H
   clear H
   go_wp2
   go_meet
   case rel => exact ⟨_, (decide (a0 ≤ 122)), (by first | rfl | (simp; done) | (simp [*]; done)), H', ⟨by first | omega | exact Nat.le_refl _⟩, by repeat (first | exact Drawn0.refl _ | apply Drawn0.step)⟩
  ·rw [if_neg c3] at H
   have c3b0 : decide (97 ≤ a0) = false := decide_eq_false c3
   clear c3
   (first | rw [c3b0] | (simp only [i64_w, i32_w]; rw [c3b0]) | skip)
   have H' := Aside0.mk H
   clear H
   go_wp2
   go_meet
   case rel => exact ⟨_, (false), (by first | rfl | (simp; done) | (simp [*]; done)), H', ⟨by first | omega | exact Nat.le_refl _⟩, by repeat (first | exact Drawn0.refl _ | apply Drawn0.step)⟩
 case rest =>
  clear HC2
  try clear p2
  try clear c3
  try clear c3b0
  obtain ⟨kq, x10_1, rfl, HA, HJ1, ⟨mc1, rfl⟩⟩ := hcut
  cases kq with
  | zero => exact absurd HA.out (by simp [stylusref01_Class.j0])
  | succ kj1 =>
   have H := HA.out
   clear HA
   simp only [stylusref01_Class.j0] at H
   by_cases c4 : x10_1 = true
   ·subst c4
    have H1 : (some 1) = some r := by rw [if_pos rfl] at H; exact H
    clear H
    have H := H1
    clear H1
    obtain rfl := Option.some.inj H
    go_wp2
    go_ret
    exact ⟨by first | rfl | (simp; done) | (simp [*]; done), by repeat (first | exact Drawn0.refl _ | apply Drawn0.step)⟩
   ·replace c4 := Bool.eq_false_iff.mpr c4
    subst c4
    have H1 : (if a0 ≥ 65 then (stylusref01_Class.j1 kj1 a0 (decide (a0 ≤ 90))) else (stylusref01_Class.j1 kj1 a0 false)) = some r := by rw [if_neg (show ¬ (false = true) by decide)] at H; exact H
    clear H
    have H := H1
    clear H1
    have HC5 := Aside0.mk H
    clear H
    go_upto_region 3 with (fail)
    go_cut [16] (fun v16 wc => ∃ (kq : Nat) (x16_4 : Bool), v16 = .bool x16_4 ∧ Aside0 (stylusref01_Class.j1 kq a0 x16_4 = some r) ∧ Aside0 (kq ≤ kj1) ∧ Drawn0 w wc)
    case first =>
     have H := HC5.out
     clear HC5
     by_cases c6 : a0 ≥ 65
     ·rw [if_pos c6] at H
      have c6b0 : decide (65 ≤ a0) = true := decide_eq_true c6
      clear c6
      (first | rw [c6b0] | (simp only [i64_w, i32_w]; rw [c6b0]) | skip)
      have H' := Aside0.mk H
      clear H
      go_wp2
      go_meet
      case rel => exact ⟨_, (decide (a0 ≤ 90)), (by first | rfl | (simp; done) | (simp [*]; done)), H', ⟨by have := HJ1.out; first | omega | exact Nat.le_refl _⟩, by repeat (first | exact Drawn0.refl _ | apply Drawn0.step)⟩
     ·rw [if_neg c6] at H
      have c6b0 : decide (65 ≤ a0) = false := decide_eq_false c6
      clear c6
      (first | rw [c6b0] | (simp only [i64_w, i32_w]; rw [c6b0]) | skip)
      have H' := Aside0.mk H
      clear H
      go_wp2
      go_meet
      case rel => exact ⟨_, (false), (by first | rfl | (simp; done) | (simp [*]; done)), H', ⟨by have := HJ1.out; first | omega | exact Nat.le_refl _⟩, by repeat (first | exact Drawn0.refl _ | apply Drawn0.step)⟩
    case rest =>
     clear HC5
     try clear c1
     try clear p2
     try clear c3
     try clear c3b0
     try clear c4
     try clear c6
     try clear c6b0
     try clear p2
     obtain ⟨kq, x16_4, rfl, HA, HJ4, ⟨mc4, rfl⟩⟩ := hcut
     cases kq with
     | zero => exact absurd HA.out (by simp [stylusref01_Class.j1])
     | succ kj4 =>
      have H := HA.out
      clear HA
      simp only [stylusref01_Class.j1] at H
      by_cases c7 : x16_4 = true
      ·subst c7
       have H1 : (some 2) = some r := by rw [if_pos rfl] at H; exact H
       clear H
       have H := H1
       clear H1
       obtain rfl := Option.some.inj H
       go_wp2
       go_ret
       exact ⟨by first | rfl | (simp; done) | (simp [*]; done), by repeat (first | exact Drawn0.refl _ | apply Drawn0.step)⟩
      ·replace c7 := Bool.eq_false_iff.mpr c7
       subst c7
       have H1 : (if a0 ≥ 48 then (stylusref01_Class.j2 kj4 a0 (decide (a0 ≤ 57))) else (stylusref01_Class.j2 kj4 a0 false)) = some r := by rw [if_neg (show ¬ (false = true) by decide)] at H; exact H
       clear H
       have H := H1
       clear H1
       have HC8 := Aside0.mk H
       clear H
       go_upto_region 5 with (fail)
       go_cut [22] (fun v22 wc => ∃ (kq : Nat) (x22_7 : Bool), v22 = .bool x22_7 ∧ Aside0 (stylusref01_Class.j2 kq a0 x22_7 = some r) ∧ Aside0 (kq ≤ kj4) ∧ Drawn0 w wc)
       case first =>
        have H := HC8.out
        clear HC8
        by_cases c9 : a0 ≥ 48
        ·rw [if_pos c9] at H
         have c9b0 : decide (48 ≤ a0) = true := decide_eq_true c9
         clear c9
         (first | rw [c9b0] | (simp only [i64_w, i32_w]; rw [c9b0]) | skip)
         have H' := Aside0.mk H
         clear H
         go_wp2
         go_meet
         case rel => exact ⟨_, (decide (a0 ≤ 57)), (by first | rfl | (simp; done) | (simp [*]; done)), H', ⟨by have := HJ1.out; have := HJ4.out; first | omega | exact Nat.le_refl _⟩, by repeat (first | exact Drawn0.refl _ | apply Drawn0.step)⟩
        ·rw [if_neg c9] at H
         have c9b0 : decide (48 ≤ a0) = false := decide_eq_false c9
         clear c9
         (first | rw [c9b0] | (simp only [i64_w, i32_w]; rw [c9b0]) | skip)
         have H' := Aside0.mk H
         clear H
         go_wp2
         go_meet
         case rel => exact ⟨_, (false), (by first | rfl | (simp; done) | (simp [*]; done)), H', ⟨by have := HJ1.out; have := HJ4.out; first | omega | exact Nat.le_refl _⟩, by repeat (first | exact Drawn0.refl _ | apply Drawn0.step)⟩
       case rest =>
        clear HC8
        try clear c1
        try clear p2
        try clear c3
        try clear c3b0
        try clear c4
        try clear c6
        try clear c6b0
        try clear c7
        try clear c9
        try clear c9b0
        try clear p2
        obtain ⟨kq, x22_7, rfl, HA, HJ7, ⟨mc7, rfl⟩⟩ := hcut
        cases kq with
        | zero => exact absurd HA.out (by simp [stylusref01_Class.j2])
        | succ kj7 =>
         have H := HA.out
         clear HA
         simp only [stylusref01_Class.j2] at H
         by_cases c10 : x22_7 = true
         ·subst c10
          have H1 : (some 3) = some r := by rw [if_pos rfl] at H; exact H
          clear H
          have H := H1
          clear H1
          obtain rfl := Option.some.inj H
          go_wp2
          go_ret
          exact ⟨by first | rfl | (simp; done) | (simp [*]; done), by repeat (first | exact Drawn0.refl _ | apply Drawn0.step)⟩
         ·replace c10 := Bool.eq_false_iff.mpr c10
          subst c10
          have H1 : (if a0 = 32 then (some 5) else (if a0 = 10 then (some 6) else ((stylusref01_Marks.f).bind fun t130 => (stylusref01_Class.l0 kj7 a0 t130 0)))) = some r := by rw [if_neg (show ¬ (false = true) by decide)] at H; exact H
          clear H
          have H := H1
          clear H1
          by_cases c11 : a0 = 32
          ·rw [if_pos c11] at H
           have c11b0 : (a0 == 32) = true := beq_iff_eq.mpr c11
           have c11b1 : (a0 != 32) = false := bne_eq_false_iff_eq.mpr c11
           clear c11
           obtain rfl := Option.some.inj H
           go_wp2
           go_ret
           exact ⟨by first | rfl | (simp; done) | (simp [*]; done), by repeat (first | exact Drawn0.refl _ | apply Drawn0.step)⟩
          ·rw [if_neg c11] at H
           have c11b0 : (a0 == 32) = false := beq_eq_false_iff_ne.mpr c11
           have c11b1 : (a0 != 32) = true := bne_iff_ne.mpr c11
           by_cases c12 : a0 = 10
           ·rw [if_pos c12] at H
            have c12b0 : (a0 == 10) = true := beq_iff_eq.mpr c12
            have c12b1 : (a0 != 10) = false := bne_eq_false_iff_eq.mpr c12
            clear c12
            obtain rfl := Option.some.inj H
            go_wp2
            go_ret
            exact ⟨by first | rfl | (simp; done) | (simp [*]; done), by repeat (first | exact Drawn0.refl _ | apply Drawn0.step)⟩
           ·rw [if_neg c12] at H
            have c12b0 : (a0 == 10) = false := beq_eq_false_iff_ne.mpr c12
            have c12b1 : (a0 != 10) = true := bne_iff_ne.mpr c12
            replace H := Option.bind_eq_some_iff.mp H
            obtain ⟨t130, A130, H⟩ := H
            replace H : (stylusref01_Class.l0 kj7 a0 t130 0) = some r := H
            have A13 := Aside0.mk A130
            clear A130
            have H' := Aside0.mk H
            clear H
            go_wp2_with (first | ((with_reducible refine gate_callee (f := 43) rfl ?_); refine goesL_ (some 27) rfl rfl Try.func43 (by kernel_rfl) rfl #[] rfl (by (try simp only [List.map_toArray, List.map_cons, List.map_nil]); first | done | rfl | (simp only [List.length_drop, List.length_take]; rfl)) ?_; (with_reducible refine (stylusref01_Marks.calls  t130 _ A13.out).mono ?_); rintro e w' ⟨rfl, ⟨nd, rfl⟩⟩; refine ⟨_, rfl, ?_⟩))
            go_loopg [4] kj7 (fun kq v4 w' => ∃ (x4_4 : Int), v4 = .int .i64 x4_4 ∧ Aside0 (stylusref01_Class.l0 kq a0 t130 x4_4 = some r) ∧ Aside0 (kq ≤ kj7) ∧ Drawn0 w w')
            case atStart => exact ⟨(0), (by first | rfl | (simp; done) | (simp [*]; done)), H', ⟨Nat.le_refl _⟩, by repeat (first | exact Drawn0.refl _ | apply Drawn0.step)⟩
            case round =>
             clear H'
             try clear c1
             try clear p2
             try clear c3
             try clear c3b0
             try clear c4
             try clear c6
             try clear c6b0
             try clear c7
             try clear c9
             try clear c9b0
             try clear c10
             try clear c11
             try clear c11b0
             try clear c11b1
             try clear c12
             try clear c12b0
             try clear c12b1
             try clear p2
             obtain ⟨x4_4, rfl, HA, HK4, ⟨m4, rfl⟩⟩ := hrel
             cases gk with
             | zero => exact absurd HA.out (by simp [stylusref01_Class.l0])
             | succ k4 =>
              have H := HA.out
              clear HA
              simp only [stylusref01_Class.l0] at H
              by_cases c14 : x4_4 < (t130.size : Int)
              ·rw [if_pos c14] at H
               have c14b0 : decide (x4_4 < (t130.size : Int)) = true := decide_eq_true c14
               clear c14
               by_cases c15 : 0 ≤ x4_4
               ·rw [if_pos c15] at H
                have c15b0 : decide (0 ≤ x4_4) = true := decide_eq_true c15
                clear c15
                by_cases c17 : (bt t130 x4_4) = a0
                ·rw [if_pos c17] at H
                 have c17b0 : ((bt t130 x4_4) == a0) = true := beq_iff_eq.mpr c17
                 have c17b1 : ((bt t130 x4_4) != a0) = false := bne_eq_false_iff_eq.mpr c17
                 clear c17
                 obtain rfl := Option.some.inj H
                 have p16 : 0 ≤ (x4_4 : Int) := of_decide_eq_true (by first | (with_reducible assumption) | assumption)
                 have q16 : x4_4 < (t130.size : Int) := of_decide_eq_true (by first | (with_reducible assumption) | assumption)
                 have hx16 := bt_at t130 x4_4
                 replace p16 := eq_true p16
                 replace q16 := eq_true q16
                 go_wp2
                 go_ret
                 exact ⟨by first | rfl | (simp; done) | (simp [*]; done), by repeat (first | exact Drawn0.refl _ | apply Drawn0.step)⟩
                ·rw [if_neg c17] at H
                 have c17b0 : ((bt t130 x4_4) == a0) = false := beq_eq_false_iff_ne.mpr c17
                 have c17b1 : ((bt t130 x4_4) != a0) = true := bne_iff_ne.mpr c17
                 have H' := Aside0.mk H
                 clear H
                 have p16 : 0 ≤ (x4_4 : Int) := of_decide_eq_true (by first | (with_reducible assumption) | assumption)
                 have q16 : x4_4 < (t130.size : Int) := of_decide_eq_true (by first | (with_reducible assumption) | assumption)
                 have hx16 := bt_at t130 x4_4
                 replace p16 := eq_true p16
                 replace q16 := eq_true q16
                 go_wp2
                 go_roundg k4
                 case measure => have := HJ1.out; have := HJ4.out; have := HJ7.out; have := HK4.out; omega
                 case rel => exact ⟨(wrap64 (x4_4 + 1)), (by first | rfl | (simp; done) | (simp [*]; done)), H', ⟨by have := HJ1.out; have := HJ4.out; have := HJ7.out; have := HK4.out; omega⟩, by repeat (first | exact Drawn0.refl _ | apply Drawn0.step)⟩
               ·rw [if_neg c15] at H
                exact absurd H (by simp)
              ·rw [if_neg c14] at H
               have c14b0 : decide (x4_4 < (t130.size : Int)) = false := decide_eq_false c14
               clear c14
               obtain rfl := Option.some.inj H
               go_wp2
               go_ret
               exact ⟨by first | rfl | (simp; done) | (simp [*]; done), by repeat (first | exact Drawn0.refl _ | apply Drawn0.step)⟩
def stylusref01_Lower.f (k : Nat) (a0 : Int) : Option (Int) := (stylusref01_Class.f k a0).bind fun t131 => (if t131 = 2 then (some ((((a0 - 65) % 256) + 97) % 256)) else (some a0))
theorem stylusref01_Lower.mono : ∀ a0 k, LeO (stylusref01_Lower.f k a0) (stylusref01_Lower.f (k + 1) a0) := by
 intro a0 k
 unfold stylusref01_Lower.f
 repeat' first
   | (with_reducible exact stylusref01_Class.mono _ _)
   | (with_reducible exact LeO.refl _)
   | (with_reducible exact LeO.none _)
   | (with_reducible refine LeO.ite ?_ ?_)
   | (with_reducible refine LeO.bind ?_ (fun _ => ?_))
   | exact stylusref01_Class.mono _ _
   | exact LeO.none _
   | refine LeO.ite ?_ ?_
   | refine LeO.bind ?_ (fun _ => ?_)
def stylusref01_Low.l0 : Nat → ByteArray → List Int → Int → Option (ByteArray)
 | 0, _, _, _ => none
 | k + 1, x0, x3, x4 => if x4 < (x0.size : Int) then (if 0 ≤ x4 then ((stylusref01_Lower.f k (bt x0 x4)).bind fun t132 => (if x3.length < 140737488355328 then (stylusref01_Low.l0 k x0 (x3 ++ [t132]) (wrap64 (x4 + 1))) else (none))) else (none)) else (some (strOfNums x3))
def stylusref01_Low.f (k : Nat) (a0 : ByteArray) : Option (ByteArray) := stylusref01_Low.l0 k a0 ([] : List Int) 0
theorem stylusref01_Low.mono_l : ∀ k, (∀ y0 y1 y2, LeO (stylusref01_Low.l0 k y0 y1 y2) (stylusref01_Low.l0 (k + 1) y0 y1 y2))
 | 0 => fun _ _ _ r h => by simp [stylusref01_Low.l0] at h
 | k + 1 => by
  have ih0 := stylusref01_Low.mono_l k
  ·intro y0 y1 y2
   unfold stylusref01_Low.l0
   repeat' first
   | (with_reducible exact ih0 _ _ _)
   | (with_reducible exact stylusref01_Lower.mono _ _)
   | (with_reducible exact LeO.refl _)
   | (with_reducible exact LeO.none _)
   | (with_reducible refine LeO.ite ?_ ?_)
   | (with_reducible refine LeO.bind ?_ (fun _ => ?_))
   | exact ih0 _ _ _
   | exact stylusref01_Lower.mono _ _
   | exact LeO.none _
   | refine LeO.ite ?_ ?_
   | refine LeO.bind ?_ (fun _ => ?_)
theorem stylusref01_Low.mono : ∀ a0 k, LeO (stylusref01_Low.f k a0) (stylusref01_Low.f (k + 1) a0) := by
 intro a0 k
 have ih0 := stylusref01_Low.mono_l k
 unfold stylusref01_Low.f
 repeat' first
   | (with_reducible exact ih0 _ _ _)
   | (with_reducible exact stylusref01_Lower.mono _ _)
   | (with_reducible exact LeO.refl _)
   | (with_reducible exact LeO.none _)
   | (with_reducible refine LeO.ite ?_ ?_)
   | (with_reducible refine LeO.bind ?_ (fun _ => ?_))
   | exact ih0 _ _ _
   | exact stylusref01_Lower.mono _ _
   | exact LeO.none _
   | refine LeO.ite ?_ ?_
   | refine LeO.bind ?_ (fun _ => ?_)
def stylusref01_Letter.f (k : Nat) (a0 : Int) : Option (Bool) := (stylusref01_Class.f k a0).bind fun t136 => (if t136 = 1 then (some true) else ((stylusref01_Class.f k a0).bind fun t137 => (some (t137 == 2))))
theorem stylusref01_Letter.mono : ∀ a0 k, LeO (stylusref01_Letter.f k a0) (stylusref01_Letter.f (k + 1) a0) := by
 intro a0 k
 unfold stylusref01_Letter.f
 repeat' first
   | (with_reducible exact stylusref01_Class.mono _ _)
   | (with_reducible exact LeO.refl _)
   | (with_reducible exact LeO.none _)
   | (with_reducible refine LeO.ite ?_ ?_)
   | (with_reducible refine LeO.bind ?_ (fun _ => ?_))
   | exact stylusref01_Class.mono _ _
   | exact LeO.none _
   | refine LeO.ite ?_ ?_
   | refine LeO.bind ?_ (fun _ => ?_)
def chars_Is.f (a0 : Int) : Option (Bool) := (chars_Class.f a0).bind fun t101 => (if t101 = 0 then (some false) else (some (t101 != 6)))
set_option maxHeartbeats 8000000 in
set_option maxRecDepth 100000 in
theorem chars_Is.calls (a0 : Int) (r : Bool) (w : World) (h : chars_Is.f a0 = some r) :
  Calls Try.prog 33 #[.int .u8 a0] w fun e w' => e = .returned (.bool r) ∧ Below w.heap.size w w' := by
 have HB := Aside0.mk (Below.refl w.heap.size w)
 have H : ((chars_Class.f a0).bind fun t101 => (if t101 = 0 then (some false) else (some (t101 != 6)))) = some r := h
 clear h
 replace H := Option.bind_eq_some_iff.mp H
 obtain ⟨t101, A20, H⟩ := H
 replace H : (if t101 = 0 then (some false) else (some (t101 != 6))) = some r := H
 have A2 := Aside0.mk A20
 clear A20
 by_cases c3 : t101 = 0
 ·rw [if_pos c3] at H
  have c3b0 : (t101 == 0) = true := beq_iff_eq.mpr c3
  have c3b1 : (t101 != 0) = false := bne_eq_false_iff_eq.mpr c3
  clear c3
  obtain rfl := Option.some.inj H
  go_enter Try.func33, Try.ntmps33
  go_wp2_with (first | ((with_reducible refine gate_callee (f := 24) rfl ?_); refine goesL_ (some 5) rfl rfl Try.func24 (by kernel_rfl) rfl #[.int .u8 a0] rfl (by (try simp only [List.map_toArray, List.map_cons, List.map_nil]); first | done | rfl | (simp only [List.length_drop, List.length_take]; rfl)) ?_; (with_reducible refine (chars_Class.calls a0 t101 _ A2.out).mono ?_); rintro e w4 ⟨rfl, hb⟩; refine ⟨_, rfl, ?_⟩; have n0_ := Aside0.mk (below_step (by repeat (first | (with_reducible first | exact HB.out | apply below_alloc | apply pw_below_drewN | apply below_drew1) | exact HB.out)) hb); clear HB; have HB := n0_; clear n0_; (try clear hb); (try clear hb2); (try clear hk); (try clear hi)))
  go_ret
  exact ⟨by first | rfl | (simp [errW_none, errW_some] <;> rfl) | (simp [*, errW_none, errW_some] <;> rfl), by repeat (first | (with_reducible first | exact HB.out | apply below_alloc | apply pw_below_drewN | apply below_drew1) | exact HB.out)⟩
 ·rw [if_neg c3] at H
  have c3b0 : (t101 == 0) = false := beq_eq_false_iff_ne.mpr c3
  have c3b1 : (t101 != 0) = true := bne_iff_ne.mpr c3
  obtain rfl := Option.some.inj H
  go_enter Try.func33, Try.ntmps33
  go_wp2_with (first | ((with_reducible refine gate_callee (f := 24) rfl ?_); refine goesL_ (some 5) rfl rfl Try.func24 (by kernel_rfl) rfl #[.int .u8 a0] rfl (by (try simp only [List.map_toArray, List.map_cons, List.map_nil]); first | done | rfl | (simp only [List.length_drop, List.length_take]; rfl)) ?_; (with_reducible refine (chars_Class.calls a0 t101 _ A2.out).mono ?_); rintro e w5 ⟨rfl, hb⟩; refine ⟨_, rfl, ?_⟩; have n0_ := Aside0.mk (below_step (by repeat (first | (with_reducible first | exact HB.out | apply below_alloc | apply pw_below_drewN | apply below_drew1) | exact HB.out)) hb); clear HB; have HB := n0_; clear n0_; (try clear hb); (try clear hb2); (try clear hk); (try clear hi)))
  go_ret
  exact ⟨by first | rfl | (simp [errW_none, errW_some] <;> rfl) | (simp [*, errW_none, errW_some] <;> rfl), by repeat (first | (with_reducible first | exact HB.out | apply below_alloc | apply pw_below_drewN | apply below_drew1) | exact HB.out)⟩
def stylusref01_Is.f (k : Nat) (a0 : Int) : Option (Bool) := (stylusref01_Class.f k a0).bind fun t102 => (if t102 ≥ 1 then ((stylusref01_Class.f k a0).bind fun t103 => (some (decide (t103 ≤ 5)))) else (some false))
theorem stylusref01_Is.mono : ∀ a0 k, LeO (stylusref01_Is.f k a0) (stylusref01_Is.f (k + 1) a0) := by
 intro a0 k
 unfold stylusref01_Is.f
 repeat' first
   | (with_reducible exact stylusref01_Class.mono _ _)
   | (with_reducible exact LeO.refl _)
   | (with_reducible exact LeO.none _)
   | (with_reducible refine LeO.ite ?_ ?_)
   | (with_reducible refine LeO.bind ?_ (fun _ => ?_))
   | exact stylusref01_Class.mono _ _
   | exact LeO.none _
   | refine LeO.ite ?_ ?_
   | refine LeO.bind ?_ (fun _ => ?_)
set_option maxHeartbeats 8000000 in
set_option maxRecDepth 100000 in
theorem stylusref01_Is.calls (k : Nat) (a0 : Int) (r : Bool) (w : World) (h : stylusref01_Is.f k a0 = some r) :
  Calls Try.prog 34 #[.int .u8 a0] w fun e w' => e = .returned (.bool r) ∧ Drawn0 w w' := by
 have H : ((stylusref01_Class.f k a0).bind fun t102 => (if t102 ≥ 1 then ((stylusref01_Class.f k a0).bind fun t103 => (some (decide (t103 ≤ 5)))) else (some false))) = some r := h
 clear h
 replace H := Option.bind_eq_some_iff.mp H
 obtain ⟨t102, A20, H⟩ := H
 replace H : (if t102 ≥ 1 then ((stylusref01_Class.f k a0).bind fun t103 => (some (decide (t103 ≤ 5)))) else (some false)) = some r := H
 have A2 := Aside0.mk A20
 clear A20
 by_cases c3 : t102 ≥ 1
 ·rw [if_pos c3] at H
  have c3b0 : decide (1 ≤ t102) = true := decide_eq_true c3
  clear c3
  replace H := Option.bind_eq_some_iff.mp H
  obtain ⟨t103, A40, H⟩ := H
  replace H : (some (decide (t103 ≤ 5))) = some r := H
  have A4 := Aside0.mk A40
  clear A40
  obtain rfl := Option.some.inj H
  go_enter Try.func34, Try.ntmps34
  go_wp2_with (first | ((with_reducible refine gate_callee (f := 32) rfl ?_); refine goesL_ (some 4) rfl rfl Try.func32 (by kernel_rfl) rfl #[.int .u8 a0] rfl (by (try simp only [List.map_toArray, List.map_cons, List.map_nil]); first | done | rfl | (simp only [List.length_drop, List.length_take]; rfl)) ?_; (with_reducible refine (stylusref01_Class.calls k a0 t102 _ A2.out).mono ?_); rintro e w' ⟨rfl, ⟨nd, rfl⟩⟩; refine ⟨_, rfl, ?_⟩) | (go_at_call 32; (with_reducible refine (stylusref01_Class.calls k a0 t103 _ A4.out).mono ?_); rintro e w' ⟨rfl, ⟨nd, rfl⟩⟩))
  go_ret
  exact ⟨by first | rfl | (simp; done) | (simp [*]; done), by repeat (first | exact Drawn0.refl _ | apply Drawn0.step)⟩
 ·rw [if_neg c3] at H
  have c3b0 : decide (1 ≤ t102) = false := decide_eq_false c3
  clear c3
  obtain rfl := Option.some.inj H
  go_enter Try.func34, Try.ntmps34
  go_wp2_with (first | ((with_reducible refine gate_callee (f := 32) rfl ?_); refine goesL_ (some 4) rfl rfl Try.func32 (by kernel_rfl) rfl #[.int .u8 a0] rfl (by (try simp only [List.map_toArray, List.map_cons, List.map_nil]); first | done | rfl | (simp only [List.length_drop, List.length_take]; rfl)) ?_; (with_reducible refine (stylusref01_Class.calls k a0 t102 _ A2.out).mono ?_); rintro e w' ⟨rfl, ⟨nd, rfl⟩⟩; refine ⟨_, rfl, ?_⟩))
  go_ret
  exact ⟨by first | rfl | (simp; done) | (simp [*]; done), by repeat (first | exact Drawn0.refl _ | apply Drawn0.step)⟩
def chars_White.f (a0 : Int) : Option (Bool) := if a0 = 32 then (some true) else (some (a0 == 10))
set_option maxHeartbeats 8000000 in
set_option maxRecDepth 100000 in
theorem chars_White.calls (a0 : Int) (r : Bool) (w : World) (h : chars_White.f a0 = some r) :
  Calls Try.prog 35 #[.int .u8 a0] w fun e w' => e = .returned (.bool r) ∧ Drawn0 w w' := by
 have H : (if a0 = 32 then (some true) else (some (a0 == 10))) = some r := h
 clear h
 by_cases c2 : a0 = 32
 ·rw [if_pos c2] at H
  have c2b0 : (a0 == 32) = true := beq_iff_eq.mpr c2
  have c2b1 : (a0 != 32) = false := bne_eq_false_iff_eq.mpr c2
  clear c2
  obtain rfl := Option.some.inj H
  go_enter Try.func35, Try.ntmps35
  go_wp2
  go_ret
  exact ⟨by first | rfl | (simp; done) | (simp [*]; done), by repeat (first | exact Drawn0.refl _ | apply Drawn0.step)⟩
 ·rw [if_neg c2] at H
  have c2b0 : (a0 == 32) = false := beq_eq_false_iff_ne.mpr c2
  have c2b1 : (a0 != 32) = true := bne_iff_ne.mpr c2
  obtain rfl := Option.some.inj H
  go_enter Try.func35, Try.ntmps35
  go_wp2
  go_ret
  exact ⟨by first | rfl | (simp; done) | (simp [*]; done), by repeat (first | exact Drawn0.refl _ | apply Drawn0.step)⟩
def chars_Letter.f (a0 : Int) : Option (Bool) := (chars_Class.f a0).bind fun t104 => (if t104 = 1 then (some true) else (some (t104 == 2)))
def stylusref01_Upper.f (k : Nat) (a0 : Int) : Option (Int) := (stylusref01_Class.f k a0).bind fun t105 => (if t105 = 1 then (some ((((a0 - 97) % 256) + 65) % 256)) else (some a0))
theorem stylusref01_Upper.mono : ∀ a0 k, LeO (stylusref01_Upper.f k a0) (stylusref01_Upper.f (k + 1) a0) := by
 intro a0 k
 unfold stylusref01_Upper.f
 repeat' first
   | (with_reducible exact stylusref01_Class.mono _ _)
   | (with_reducible exact LeO.refl _)
   | (with_reducible exact LeO.none _)
   | (with_reducible refine LeO.ite ?_ ?_)
   | (with_reducible refine LeO.bind ?_ (fun _ => ?_))
   | exact stylusref01_Class.mono _ _
   | exact LeO.none _
   | refine LeO.ite ?_ ?_
   | refine LeO.bind ?_ (fun _ => ?_)
def styluslaw01_CharsOf.f (k : Nat) (a0 : Int) : Option (Bool) := (chars_Class.f a0).bind fun t106 => ((stylusref01_Class.f k a0).bind fun t107 => (if t106 = t107 then ((chars_Is.f a0).bind fun t108 => ((stylusref01_Is.f k a0).bind fun t109 => (if (t108 == t109) = true then ((chars_White.f a0).bind fun t110 => (if a0 = 32 then (if (t110 == true) = true then ((chars_Letter.f a0).bind fun t111 => ((stylusref01_Letter.f k a0).bind fun t112 => (if (t111 == t112) = true then ((chars_Lower.f a0).bind fun t113 => ((stylusref01_Lower.f k a0).bind fun t114 => (if t113 = t114 then ((chars_Upper.f a0).bind fun t115 => ((stylusref01_Upper.f k a0).bind fun t116 => (if t115 = t116 then ((chars_Marks.f).bind fun t117 => ((stylusref01_Marks.f).bind fun t118 => (if t117.toList = t118.toList then ((styluslaw01_awake.f k).bind fun t119 => (some t119)) else (some false)))) else (some false)))) else (some false)))) else (some false)))) else (some false)) else (if (t110 == (a0 == 10)) = true then ((chars_Letter.f a0).bind fun t120 => ((stylusref01_Letter.f k a0).bind fun t121 => (if (t120 == t121) = true then ((chars_Lower.f a0).bind fun t122 => ((stylusref01_Lower.f k a0).bind fun t123 => (if t122 = t123 then ((chars_Upper.f a0).bind fun t124 => ((stylusref01_Upper.f k a0).bind fun t125 => (if t124 = t125 then ((chars_Marks.f).bind fun t126 => ((stylusref01_Marks.f).bind fun t127 => (if t126.toList = t127.toList then ((styluslaw01_awake.f k).bind fun t128 => (some t128)) else (some false)))) else (some false)))) else (some false)))) else (some false)))) else (some false)))) else (some false)))) else (some false)))
theorem styluslaw01_CharsOf.mono : ∀ a0 k, LeO (styluslaw01_CharsOf.f k a0) (styluslaw01_CharsOf.f (k + 1) a0) := by
 intro a0 k
 unfold styluslaw01_CharsOf.f
 repeat' first
   | (with_reducible exact styluslaw01_awake.mono _)
   | (with_reducible exact stylusref01_Class.mono _ _)
   | (with_reducible exact stylusref01_Is.mono _ _)
   | (with_reducible exact stylusref01_Letter.mono _ _)
   | (with_reducible exact stylusref01_Lower.mono _ _)
   | (with_reducible exact stylusref01_Upper.mono _ _)
   | (with_reducible exact LeO.refl _)
   | (with_reducible exact LeO.none _)
   | (with_reducible refine LeO.ite ?_ ?_)
   | (with_reducible refine LeO.bind ?_ (fun _ => ?_))
   | exact styluslaw01_awake.mono _
   | exact stylusref01_Class.mono _ _
   | exact stylusref01_Is.mono _ _
   | exact stylusref01_Letter.mono _ _
   | exact stylusref01_Lower.mono _ _
   | exact stylusref01_Upper.mono _ _
   | exact LeO.none _
   | refine LeO.ite ?_ ?_
   | refine LeO.bind ?_ (fun _ => ?_)
end Go.Proofs.Ythcmfjpheanphaa.Pr
namespace Go.Det
open Go Go.RowKit
theorem sl_strh {P : Program} {t : TypeId} (h : P.underlying t = some .string) (s : ByteArray) (j : Nat) (hj : j ≤ s.size) (w : World) :
  (Instr.slice t (.string s) none (some (.int .i64 (j : Int))) none).run P w = .ok (.string (s.extract 0 j)) w := by
 simp [Instr.slice, Instr.sliceBounds, Instr.sliceBound, asIntOf, run_underlying h, hj]
theorem sl_strl {P : Program} {t : TypeId} (h : P.underlying t = some .string) (s : ByteArray) (i : Nat) (hi : i ≤ s.size) (w : World) :
  (Instr.slice t (.string s) (some (.int .i64 (i : Int))) none none).run P w = .ok (.string (s.extract i s.size)) w := by
 simp [Instr.slice, Instr.sliceBounds, Instr.sliceBound, asIntOf, run_underlying h, hi]
theorem below_setRow {B : Nat} {w W : World} (h : Below B w W) {g : Nat} (hg : B ≤ g) (cs : Array Value) : Below B w (W.setRow g cs) :=
 h.trans ⟨rfl, rfl, rfl, by simp [World.setRow], fun k hk => by simp only [World.setRow, Array.getElem?_modify]; rw [if_neg (by omega)]⟩
end Go.Det
namespace Go.Proofs.Ythcmfjpheanphaa.Pr
open Go.RowKit Go.Proofs.YthcmfjpheanphaaW.PrintWords
def namesL : List ByteArray := [⟨#[104, 49]⟩, ⟨#[104, 50]⟩, ⟨#[104, 51]⟩, ⟨#[112]⟩, ⟨#[108]⟩, ⟨#[105]⟩, ⟨#[116]⟩, ⟨#[114]⟩, ⟨#[99]⟩, ⟨#[110]⟩, ⟨#[101]⟩, ⟨#[115]⟩, ⟨#[107]⟩]
set_option maxHeartbeats 1000000 in
theorem names_calls (w : World) : Calls Try.prog 85 #[] w fun e w' => e = .returned (.slice (some ⟨w.heap.size, 0, none⟩) 13 13) ∧ w' = w.alloc (.cells (namesL.map Value.string).toArray 9) := by
 go_enter Try.func85, Try.ntmps85
 go_wp2
 go_ret
 exact ⟨rfl, rfl⟩
theorem names_cell {w W : World} (h : Below (w.alloc (.cells (namesL.map Value.string).toArray 9)).heap.size (w.alloc (.cells (namesL.map Value.string).toArray 9)) W) (j : Nat) (x : ByteArray) (hx : namesL[j]? = some x) :
  W.cell? ⟨w.heap.size, j, none⟩ = some (.string x) := by
 rw [h.cell (p := ⟨w.heap.size, j, none⟩) (by simp)]
 rw [blk_cell (blk_new w (.cells (namesL.map Value.string).toArray 9)) j]
 simp [hx]
def letP (n : ByteArray) : Int := bt n ((n.size : Int) - 1)
set_option maxHeartbeats 1000000 in
theorem letter_calls (n : ByteArray) (h : 0 < n.size) (hn : n.size ≤ 1000000) (w : World) : Calls Try.prog 88 #[.string n] w fun e w' => e = .returned (.int .u8 (letP n)) ∧ w = w' := by
 have h1 : (0 : Int) ≤ (n.size : Int) - 1 := by omega
 have h2 : (n.size : Int) - 1 < n.size := by omega
 have h3 : n.size - 1 < n.size := by omega
 have e1 : (n.size : Int) - 1 = ((n.size - 1 : Nat) : Int) := by omega
 have hg : ((n[n.size - 1].toNat : Nat) : Int) = letP n := by
  unfold letP
  rw [e1]
  exact bt_at n ((n.size - 1 : Nat) : Int) (by simpa using h3)
 have hix : ∀ W, (Instr.index 9 (.string n) (.int .i64 ((n.size : Int) - 1))).run Try.prog W = .ok (.int .u8 (letP n)) W := fun W => by
  rw [← hg, e1]
  go_simp
 generalize letP n = y at *
 clear hg e1
 go_enter Try.func88, Try.ntmps88
 go_wp2
 go_ret
 exact ⟨rfl, rfl⟩
theorem name1_calls (n : ByteArray) (h : 0 < n.size) (hn : n.size ≤ 1000000) (c : Int) (B : Nat) (W : World) (hB : B < W.heap.size) (hc : W.cell? ⟨B, 0, none⟩ = some (.int .u8 c)) :
  Calls Try.prog 87 #[.string n, .pointer (some ⟨B, 0, none⟩)] W fun e w' => e = .returned (.bool (letP n == c)) ∧ Below W.heap.size W w' := by
 have hcW : ∀ W', Below W.heap.size W W' → W'.cell? ⟨B, 0, none⟩ = some (.int .u8 c) := fun W' hb => (hb.cell (p := ⟨B, 0, none⟩) hB).trans hc
 have HC := Lib.hid hcW
 clear hcW hc
 have hl := letter_calls n h hn
 have HL := Lib.hid hl
 clear hl
 go_enter Try.func87, Try.ntmps87
 go_wp2_with fail
 refine Go.Det.region_all (fun W' => Below W.heap.size W W') (by kernel_rfl) (by kernel_rfl) (below_drew (Below.refl _ _)) ?_
 repeat (apply Go.Det.seqW_cons; focus (intro W' hS; replace hS : Below W.heap.size W W' := hS; have hcc := HC.out W' hS; go_wp2_with (go_at_call 88; (with_reducible refine (HL.out _).mono ?_); rintro e w1 ⟨rfl, rfl⟩); exact Go.Det.AtEnd.mk hS))
 refine Go.Det.seqW_nil ?_
 intro W' hS
 replace hS : Below W.heap.size W W' := hS
 simp only [Exit.then]
 go_wp2
 go_ret
 exact ⟨rfl, hS⟩
def idxP (p : ByteArray → Bool) : List ByteArray → Int → Int
 | [], _ => -1
 | x :: xs, i => if p x then i else idxP p xs (i + 1)
theorem indexFunc_calls (g : Nat) (lb : Array Value) (eg : ∀ args w, (callFunc g args).run Try.prog w = .ok (.enter g args) w) (p : ByteArray → Bool) (xs : List ByteArray) (blk c : Nat) (w : World) (hx : xs.length ≤ 1000000)
  (hcell : ∀ W, Below w.heap.size w W → ∀ (j : Nat) x, xs[j]? = some x → W.cell? ⟨blk, j, none⟩ = some (.string x))
  (hg : ∀ x ∈ xs, ∀ W, Below w.heap.size w W → Calls Try.prog g (#[.string x] ++ lb) W fun e w' => e = .returned (.bool (p x)) ∧ Below W.heap.size W w') :
  Calls Try.prog 86 #[.slice (some ⟨blk, 0, none⟩) xs.length c, .func (.func g) #[] lb] w fun e w' => e = .returned (.int .i64 (idxP p xs 0)) ∧ Below w.heap.size w w' := by
 have HC := Lib.hid hcell
 have HG := Lib.hid hg
 clear hcell hg
 obtain ⟨n, hn⟩ : ∃ n, xs.length = n := ⟨_, rfl⟩
 rw [hn] at hx ⊢
 have HN := Lib.hid hn
 clear hn
 go_enter Try.func86, Try.ntmps86
 go_wp2
 go_loopw [8] (fun v wr => ∃ (k : Nat) (rest : List ByteArray), xs.drop k = rest ∧ Hid (idxP p xs 0 = idxP p rest k) ∧ v = .int .i64 k ∧ k ≤ n ∧ Below w.heap.size w wr) (fun v _ => n - (intOf v).toNat)
 case atStart => exact ⟨0, xs, rfl, Lib.hid rfl, rfl, by omega, Below.refl _ _⟩
 case round =>
  obtain ⟨k, rest, hr, H, rfl, hk, hB⟩ := hrel
  by_cases hlt : k < n
  ·have hl2 : (k : Int) < (n : Int) := by omega
   obtain ⟨x, rest, rfl⟩ : ∃ x r, rest = x :: r := by
    cases rest with
    | nil =>
     have := congrArg List.length hr
     simp at this
     have := HN.out
     omega
    | cons x r => exact ⟨x, r, rfl⟩
   have hxk : xs[k]? = some x := by
    have := congrArg (fun l => l[0]?) hr
    simpa using this
   have hr' : xs.drop (k + 1) = rest := by
    have := congrArg List.tail hr
    simpa using this
   have HR := Lib.hid hr'
   have hcc := HC.out wr hB k x hxk
   have hcall := HG.out x (List.mem_of_getElem? hxk) wr hB
   clear hr hr' hxk
   cases hp : p x with
   | true =>
    rw [hp] at hcall
    have hi : idxP p xs 0 = k := by rw [H.out]; simp [idxP, hp]
    have HI := Lib.hid hi
    clear hi hp H
    go_wp2_with (go_at_fn g; refine hcall.mono ?_; rintro e w' ⟨rfl, hb'⟩)
    go_ret
    exact ⟨by rw [HI.out]; rfl, hB.trans (hb'.mono hB.size)⟩
   | false =>
    rw [hp] at hcall
    have hi : idxP p xs 0 = idxP p rest ((k + 1 : Nat) : Int) := by rw [H.out]; simp [idxP, hp]
    have HI := Lib.hid hi
    clear hi hp H
    go_wp2_with (go_at_fn g; refine hcall.mono ?_; rintro e w' ⟨rfl, hb'⟩)
    go_roundw
    case rel => exact ⟨k + 1, rest, HR.out, HI, by go_num, by omega, hB.trans (hb'.mono hB.size)⟩
    case measure => simp [intOf]; omega
  ·have hk2 : ¬ (k : Int) < (n : Int) := by omega
   have hnil : rest = [] := by
    rw [← hr]; apply List.drop_eq_nil_of_le; have := HN.out; omega
   subst hnil
   have hi : idxP p xs 0 = -1 := H.out
   have HI := Lib.hid hi
   clear hi hr H
   go_wp2
   go_ret
   exact ⟨by rw [HI.out]; rfl, hB⟩
theorem idxP_spec (p : ByteArray → Bool) : ∀ (xs : List ByteArray) (i : Int), (idxP p xs i = -1 ∧ xs.find? p = none) ∨ ∃ (j : Nat) (x : ByteArray), xs[j]? = some x ∧ idxP p xs i = i + j ∧ xs.find? p = some x ∧ p x = true
 | [], i => .inl ⟨rfl, rfl⟩
 | x :: xs, i => by
  cases hp : p x with
  | true => exact .inr ⟨0, x, rfl, by simp [idxP, hp], by simp [hp], hp⟩
  | false =>
   rcases idxP_spec p xs (i + 1) with ⟨h1, h2⟩ | ⟨j, y, h1, h2, h3, h4⟩
   ·exact .inl ⟨by simp [idxP, hp, h1], by simp [hp, h2]⟩
   ·exact .inr ⟨j + 1, y, by simpa using h1, by simp [idxP, hp, h2]; omega, by simp [hp, h3], h4⟩
theorem names_sizes : ∀ x ∈ namesL, 0 < x.size ∧ x.size ≤ 2 := by decide +kernel
def nameP (c : Int) : ByteArray := ((namesL.find? fun n => letP n == c)).getD ⟨#[]⟩
set_option maxHeartbeats 1000000 in
theorem name_calls (c : Int) (w : World) : Calls Try.prog 48 #[.int .u8 c] w fun e w' => e = .returned (.string (nameP c)) ∧ Below w.heap.size w w' := by
 have hB0 : Below w.heap.size w ((w.alloc (.cells #[.int .u8 c] 5)).alloc (.cells (namesL.map Value.string).toArray 9)) := ((Below.refl _ w).alloc (Nat.le_refl _) _).alloc (by simp) _
 have hfn := indexFunc_calls 87 #[.pointer (some ⟨w.heap.size, 0, none⟩)] (enters_of Try.func87 (by kernel_rfl) rfl) (fun n => letP n == c) namesL (w.heap.size + 1) 13 ((w.alloc (.cells #[.int .u8 c] 5)).alloc (.cells (namesL.map Value.string).toArray 9)) (by decide)
  (fun W hW j x hx => by have := names_cell hW j x hx; simpa using this)
  (fun x hx W hW => name1_calls x (names_sizes x hx).1 (by have := (names_sizes x hx).2; omega) c w.heap.size W (by have := hW.size; simp at this; omega)
   ((hW.cell (p := ⟨w.heap.size, 0, none⟩) (by simp; omega)).trans (by
    rw [blk_cell (blk_alloc (blk_new w (.cells #[.int .u8 c] 5)) _) 0]; rfl)))
 have hcell := fun W hW j x hx => names_cell (w := w.alloc (.cells #[.int .u8 c] 5)) (W := W) hW j x hx
 have HC := Lib.hid hcell
 have HF := Lib.hid hfn
 clear hfn hcell
 have hlen : namesL.length = 13 := rfl
 have hspec := idxP_spec (fun n => letP n == c) namesL 0
 unfold nameP
 rcases hspec with ⟨h1, h2⟩ | ⟨j, x, h1, h2, h3, _⟩
 ·have H1 := Lib.hid h1
  rw [h2]
  clear h1 h2
  go_enter Try.func48, Try.ntmps48
  go_wp2_with (first | (go_at_call 85; refine (names_calls _).mono ?_; rintro e w' ⟨rfl, rfl⟩) | (go_at_call 86; refine HF.out.mono ?_; rintro e w' ⟨rfl, hb⟩; rw [H1.out]))
  go_ret
  exact ⟨rfl, hB0.trans (hb.mono hB0.size)⟩
 ·rw [Int.zero_add] at h2
  have H1 := Lib.hid h2
  have hj : j < 13 := (List.getElem?_eq_some_iff.1 h1).1
  have hj0 : ¬ (j : Int) < 0 := by omega
  have hj2 : (j : Int) < 13 := by omega
  have HX := Lib.hid h1
  rw [h3]
  clear h1 h2 h3
  go_enter Try.func48, Try.ntmps48
  go_wp2_with (first | (go_at_call 85; refine (names_calls _).mono ?_; rintro e w' ⟨rfl, rfl⟩) | (go_at_call 86; refine HF.out.mono ?_; rintro e w' ⟨rfl, hb⟩; rw [H1.out]; have hcc := HC.out w' hb j x HX.out; simp only [World.size_alloc] at hcc))
  go_ret
  exact ⟨rfl, hB0.trans (hb.mono hB0.size)⟩
def lex_Name.f (a0 : Int) : Option ByteArray := some (nameP a0)
def prefP (t n : ByteArray) : Bool := if n.size ≤ t.size then (t.extract 0 n.size).toList == n.toList else false
set_option maxHeartbeats 1000000 in
theorem pref1_calls (t n : ByteArray) (ht : t.size ≤ 140737488355328) (hn : n.size ≤ 140737488355328) (w : World) : Calls Try.prog 106 #[.string t, .string n] w fun e w' => e = .returned (.bool (prefP t n)) ∧ w = w' := by
 unfold prefP
 by_cases h : n.size ≤ t.size
 ·rw [if_pos h]
  have h1 : decide ((n.size : Int) ≤ (t.size : Int)) = true := by simpa using h
  have h2 : (n.size : Int) ≤ (t.size : Int) := by omega
  have h3 : (0 : Int) ≤ (n.size : Int) := by omega
  go_enter Try.func106, Try.ntmps106
  go_wp2
  go_ret
  exact ⟨rfl, rfl⟩
 ·rw [if_neg h]
  have h1 : decide ((n.size : Int) ≤ (t.size : Int)) = false := by simp; omega
  go_enter Try.func106, Try.ntmps106
  go_wp2
  go_ret
  exact ⟨rfl, rfl⟩
theorem pref_calls (t n : ByteArray) (ht : t.size ≤ 140737488355328) (hn : n.size ≤ 140737488355328) (w : World) : Calls Try.prog 58 #[.string t, .string n] w fun e w' => e = .returned (.bool (prefP t n)) ∧ w = w' := by
 have h := fun w => pref1_calls t n ht hn w
 have H := Lib.hid h
 clear h
 go_enter Try.func58, Try.ntmps58
 go_wp2_with (go_at_call 106; refine (H.out _).mono ?_; rintro e w' ⟨rfl, rfl⟩)
 go_ret
 exact ⟨rfl, rfl⟩
theorem open1_calls (n s : ByteArray) (hn : n.size ≤ 1000000) (hs : s.size ≤ 1000000) (h1 : 1 ≤ s.size) (B : Nat) (W : World) (hc : W.cell? ⟨B, 0, none⟩ = some (.string s)) :
  Calls Try.prog 168 #[.string n, .pointer (some ⟨B, 0, none⟩)] W fun e w' => e = .returned (.bool (prefP (s.extract 1 s.size) n)) ∧ Below W.heap.size W w' := by
 have h := fun w => pref_calls (s.extract 1 s.size) n (by rw [ByteArray.size_extract]; omega) (by omega) w
 have H := Lib.hid h
 clear h
 have hsl : ∀ W, (Instr.slice 9 (.string s) (some (.int .i64 1)) none none).run Try.prog W = .ok (.string (s.extract 1 s.size)) W := fun W => by
  have h2 : (1 : Int) ≤ (s.size : Int) := by omega
  simp [Instr.slice, Instr.sliceBounds, Instr.sliceBound, asIntOf, run_underlying Try.underlying9, h2, h1]
 go_enter Try.func168, Try.ntmps168
 go_wp2_with (go_at_call 58; refine (H.out _).mono ?_; rintro e w' ⟨rfl, rfl⟩)
 go_ret
 exact ⟨rfl, Below.refl _ _⟩
def whiteP (c : Int) : Bool := c == 32 || c == 10
theorem white_fin : ∀ n : Fin 256, chars_White.f (n.val : Int) = some (whiteP (n.val : Int)) ∧ chars_Is.f (n.val : Int) = some (!(classP (n.val : Int) == 0) && !(classP (n.val : Int) == 6)) := by decide +kernel
def plainP (c : Int) : Bool := (!(classP c == 0) && !(classP c == 6)) || whiteP c
theorem white_at (c : Int) (h0 : 0 ≤ c) (h1 : c ≤ 255) : chars_White.f c = some (whiteP c) ∧ chars_Is.f c = some (!(classP c == 0) && !(classP c == 6)) := by
 have := white_fin ⟨c.toNat, by omega⟩
 simpa only [Int.toNat_of_nonneg h0] using this
theorem white_calls (c : Int) (h0 : 0 ≤ c) (h1 : c ≤ 255) (w : World) : Calls Try.prog 35 #[.int .u8 c] w fun e w' => e = .returned (.bool (whiteP c)) ∧ Below w.heap.size w w' :=
 (chars_White.calls c _ w (white_at c h0 h1).1).mono fun _ _ ⟨he, hd⟩ => ⟨he, hd.below⟩
theorem plain_calls (c : Int) (h0 : 0 ≤ c) (h1 : c ≤ 255) (w : World) : Calls Try.prog 161 #[.int .u8 c] w fun e w' => e = .returned (.bool (plainP c)) ∧ Below w.heap.size w w' := by
 have hi := (white_at c h0 h1).2
 have hw := fun w => white_calls c h0 h1 w
 unfold plainP
 generalize (!(classP c == 0) && !(classP c == 6)) = b1 at *
 generalize whiteP c = b2 at *
 have HI := Lib.hid hi
 have HW := Lib.hid hw
 clear hi hw
 cases b1
 ·go_enter Try.func161, Try.ntmps161
  go_wp2_with (first | (go_at_call 33; refine (chars_Is.calls c _ _ HI.out).mono ?_; rintro e w1 ⟨rfl, hb⟩) | (go_at_call 35; refine (HW.out _).mono ?_; rintro e w2 ⟨rfl, hb2⟩))
  go_ret
  exact ⟨by simp, hb.trans (hb2.mono hb.size)⟩
 ·go_enter Try.func161, Try.ntmps161
  go_wp2_with (first | (go_at_call 33; refine (chars_Is.calls c _ _ HI.out).mono ?_; rintro e w1 ⟨rfl, hb⟩) | (go_at_call 35; refine (HW.out _).mono ?_; rintro e w2 ⟨rfl, hb2⟩))
  go_ret
  exact ⟨by simp, hb⟩
def openN (s : ByteArray) : Option ByteArray := namesL.find? fun n => prefP (s.extract 1 s.size) n
structure Spot where
 l : S47
 size : Int
 e : Int
def openP (s : ByteArray) (at_ : Int) : Spot :=
 match openN s with
 | none => ⟨⟨0, 0, ⟨#[]⟩, 0⟩, 0, 2⟩
 | some x => ⟨⟨2, letP x, ⟨#[]⟩, at_⟩, (if x.size + 1 < s.size ∧ whiteP (bt s ((x.size + 1 : Nat) : Int)) = true then x.size + 2 else x.size + 1), 0⟩
def encSpot (x : Spot) : Value := .agg #[.int .i64 x.l.f0, .int .u8 x.l.f1, .string x.l.f2, .int .i64 x.l.f3, .int .i64 x.size, .int .i64 x.e]
set_option pp.maxSteps 3000 in
set_option maxRecDepth 100000 in
set_option maxHeartbeats 4000000 in
theorem opening_calls (s : ByteArray) (at_ : Int) (h1 : 1 ≤ s.size) (hs : s.size ≤ 1000000) (w : World) :
  Calls Try.prog 160 #[.string s, .int .i64 at_] w fun e w' => e = .returned (encSpot (openP s at_)) ∧ Below w.heap.size w w' := by
 have hB0 : Below w.heap.size w (((w.alloc (.cells #[.string s] 9)).alloc (.cells #[.int .i64 0, .int .u8 0, .string ⟨#[]⟩, .int .i64 0, .int .i64 0, .int .i64 0] 87)).alloc (.cells (namesL.map Value.string).toArray 9)) := (((Below.refl _ w).alloc (Nat.le_refl _) _).alloc (by simp) _).alloc (by simp; omega) _
 have hbox : ∀ W, Below (((w.alloc (.cells #[.string s] 9)).alloc (.cells #[.int .i64 0, .int .u8 0, .string ⟨#[]⟩, .int .i64 0, .int .i64 0, .int .i64 0] 87)).alloc (.cells (namesL.map Value.string).toArray 9)).heap.size (((w.alloc (.cells #[.string s] 9)).alloc (.cells #[.int .i64 0, .int .u8 0, .string ⟨#[]⟩, .int .i64 0, .int .i64 0, .int .i64 0] 87)).alloc (.cells (namesL.map Value.string).toArray 9)) W → W.cell? ⟨w.heap.size, 0, none⟩ = some (.string s) := fun W hW =>
  (hW.cell (p := ⟨w.heap.size, 0, none⟩) (by simp; omega)).trans (by
   rw [blk_cell (blk_alloc (blk_alloc (blk_new w (.cells #[.string s] 9)) _) _) 0]; rfl)
 have hblk : ∀ W, Below (((w.alloc (.cells #[.string s] 9)).alloc (.cells #[.int .i64 0, .int .u8 0, .string ⟨#[]⟩, .int .i64 0, .int .i64 0, .int .i64 0] 87)).alloc (.cells (namesL.map Value.string).toArray 9)).heap.size (((w.alloc (.cells #[.string s] 9)).alloc (.cells #[.int .i64 0, .int .u8 0, .string ⟨#[]⟩, .int .i64 0, .int .i64 0, .int .i64 0] 87)).alloc (.cells (namesL.map Value.string).toArray 9)) W → W.heap[w.heap.size + 1]? = some (.cells #[.int .i64 0, .int .u8 0, .string ⟨#[]⟩, .int .i64 0, .int .i64 0, .int .i64 0] 87 (0, 0)) := fun W hW =>
  (hW.block (w.heap.size + 1) (by simp)).trans (by
   have := blk_alloc (blk_new (w.alloc (.cells #[.string s] 9)) (.cells #[.int .i64 0, .int .u8 0, .string ⟨#[]⟩, .int .i64 0, .int .i64 0, .int .i64 0] 87)) (.cells (namesL.map Value.string).toArray 9)
   simpa using this)
 have hfn := indexFunc_calls 168 #[.pointer (some ⟨w.heap.size, 0, none⟩)] (enters_of Try.func168 (by kernel_rfl) rfl) (fun n => prefP (s.extract 1 s.size) n) namesL (w.heap.size + 1 + 1) 13 (((w.alloc (.cells #[.string s] 9)).alloc (.cells #[.int .i64 0, .int .u8 0, .string ⟨#[]⟩, .int .i64 0, .int .i64 0, .int .i64 0] 87)).alloc (.cells (namesL.map Value.string).toArray 9)) (by decide)
  (fun W hW j x hx => by have := names_cell hW j x hx; simpa using this)
  (fun x hx W hW => open1_calls x s (by have := (names_sizes x hx).2; omega) hs h1 w.heap.size W (hbox W hW))
 have hcell := fun W hW j x hx => names_cell (w := (w.alloc (.cells #[.string s] 9)).alloc (.cells #[.int .i64 0, .int .u8 0, .string ⟨#[]⟩, .int .i64 0, .int .i64 0, .int .i64 0] 87)) (W := W) hW j x hx
 have HC := Lib.hid hcell
 have HF := Lib.hid hfn
 have HX := Lib.hid hbox
 have HK := Lib.hid hblk
 clear hfn hcell hbox hblk
 have hlen : namesL.length = 13 := rfl
 have hspec := idxP_spec (fun n => prefP (s.extract 1 s.size) n) namesL 0
 unfold openP openN
 rcases hspec with ⟨g1, g2⟩ | ⟨j, x, g1, g2, g3, _⟩
 ·have H1 := Lib.hid g1
  rw [g2]
  clear g1 g2
  go_enter Try.func160, Try.ntmps160
  go_wp2_with (first | (go_at_call 85; refine (names_calls _).mono ?_; rintro e w' ⟨rfl, rfl⟩) | (go_at_call 86; refine HF.out.mono ?_; rintro e w' ⟨rfl, hb⟩; rw [H1.out]) | (refine wpList_store_row rfl 87 (.tmp 4) (.tmp 14) rfl (w.heap.size + 1) _ rfl rfl 87 _ (HK.out _ hb) ?h1 ?h2 ?h3 ?h4))
  case h1 => kernel_rfl
  case h2 => rfl
  case h3 => simp [Value.oneCell']
  case h4 =>
   go_wp2
   refine bodyPost_ret (results_cell_row rfl _ _ (w.heap.size + 1) 87 _ (0, 0) _ rfl (setRow_heap _ _ _ _ _ _ (HK.out _ hb)) Try.underlying87 rfl (by kernel_rfl)) rfl ⟨rfl, ?_⟩
   exact Go.Det.below_setRow (hB0.trans (hb.mono hB0.size)) (by omega) _
 ·rw [Int.zero_add] at g2
  have H1 := Lib.hid g2
  have hj : j < 13 := (List.getElem?_eq_some_iff.1 g1).1
  have hj0 : ¬ (j : Int) < 0 := by omega
  have hj2 : (j : Int) < 13 := by omega
  have hxs := names_sizes x (List.mem_of_getElem? g1)
  have hx1 : (0 : Int) ≤ (x.size : Int) - 1 := by omega
  have hxz : x.size ≤ 2 := hxs.2
  have HXn := Lib.hid g1
  have hlt := letter_calls x hxs.1 (by omega)
  have HL := Lib.hid hlt
  rw [g3]
  dsimp only
  clear g1 g2 g3 hlt
  by_cases hsz : x.size + 1 < s.size
  ·have hsz2 : (1 : Int) + (x.size : Int) < (s.size : Int) := by omega
   have hsz3 : 1 + x.size < s.size := by omega
   have hr := bt_range s ((x.size + 1 : Nat) : Int)
   have hg : ((s[1 + x.size].toNat : Nat) : Int) = bt s ((x.size + 1 : Nat) : Int) := by
    have := bt_at s ((1 + x.size : Nat) : Int) (by rw [Int.toNat_natCast]; exact hsz3)
    rw [Nat.add_comm x.size 1, ← this]; rfl
   have hw := fun W => white_calls _ hr.1 hr.2 W
   generalize bt s ((x.size + 1 : Nat) : Int) = y at *
   have HW := Lib.hid hw
   clear hw
   cases hwy : whiteP y
   ·rw [hwy] at HW
    rw [if_neg (fun h => by simp at h)]
    go_enter Try.func160, Try.ntmps160
    go_wp2_with (first | (go_at_call 85; refine (names_calls _).mono ?_; rintro e w' ⟨rfl, rfl⟩) | (go_at_call 86; refine HF.out.mono ?_; rintro e w' ⟨rfl, hb⟩; rw [H1.out]; have hcc := HC.out w' hb j x HXn.out; simp only [World.size_alloc] at hcc; have hbx := HX.out w' hb) | (go_at_call 35; refine (HW.out _).mono ?_; rintro e w2 ⟨rfl, hb2⟩; have hb3 := hb.trans (hb2.mono hb.size); have hcc2 := HC.out w2 hb3 j x HXn.out; simp only [World.size_alloc] at hcc2) | (go_at_call 88; refine (HL.out _).mono ?_; rintro e w3 ⟨rfl, rfl⟩) | (refine wpList_store_row rfl 87 (.tmp 4) (.tmp 41) rfl (w.heap.size + 1) _ rfl rfl 87 _ (HK.out _ hb3) ?h1 ?h2 ?h3 ?h4))
    case h1 => kernel_rfl
    case h2 => rfl
    case h3 => simp [Value.oneCell']
    case h4 =>
     go_wp2
     refine bodyPost_ret (results_cell_row rfl _ _ (w.heap.size + 1) 87 _ (0, 0) _ rfl (setRow_heap _ _ _ _ _ _ (HK.out _ hb3)) Try.underlying87 rfl (by kernel_rfl)) rfl ⟨?_, ?_⟩
     ·first | rfl | (rw [Int.add_comm]; rfl)
     ·exact Go.Det.below_setRow (hB0.trans (hb3.mono hB0.size)) (by omega) _
   ·rw [hwy] at HW
    rw [if_pos ⟨hsz, rfl⟩]
    go_enter Try.func160, Try.ntmps160
    go_wp2_with (first | (go_at_call 85; refine (names_calls _).mono ?_; rintro e w' ⟨rfl, rfl⟩) | (go_at_call 86; refine HF.out.mono ?_; rintro e w' ⟨rfl, hb⟩; rw [H1.out]; have hcc := HC.out w' hb j x HXn.out; simp only [World.size_alloc] at hcc; have hbx := HX.out w' hb) | (go_at_call 35; refine (HW.out _).mono ?_; rintro e w2 ⟨rfl, hb2⟩; have hb3 := hb.trans (hb2.mono hb.size); have hcc2 := HC.out w2 hb3 j x HXn.out; simp only [World.size_alloc] at hcc2) | (go_at_call 88; refine (HL.out _).mono ?_; rintro e w3 ⟨rfl, rfl⟩) | (refine wpList_store_row rfl 87 (.tmp 4) (.tmp 41) rfl (w.heap.size + 1) _ rfl rfl 87 _ (HK.out _ hb3) ?h1 ?h2 ?h3 ?h4))
    case h1 => kernel_rfl
    case h2 => rfl
    case h3 => simp [Value.oneCell']
    case h4 =>
     go_wp2
     refine bodyPost_ret (results_cell_row rfl _ _ (w.heap.size + 1) 87 _ (0, 0) _ rfl (setRow_heap _ _ _ _ _ _ (HK.out _ hb3)) Try.underlying87 rfl (by kernel_rfl)) rfl ⟨?_, ?_⟩
     ·rw [show (1 : Int) + (x.size : Int) + 1 = (x.size : Int) + 2 by omega]; rfl
     ·exact Go.Det.below_setRow (hB0.trans (hb3.mono hB0.size)) (by omega) _
  ·have hsz2 : ¬ (1 : Int) + (x.size : Int) < (s.size : Int) := by omega
   rw [if_neg (fun h => hsz h.1)]
   go_enter Try.func160, Try.ntmps160
   go_wp2_with (first | (go_at_call 85; refine (names_calls _).mono ?_; rintro e w' ⟨rfl, rfl⟩) | (go_at_call 86; refine HF.out.mono ?_; rintro e w' ⟨rfl, hb⟩; rw [H1.out]; have hcc := HC.out w' hb j x HXn.out; simp only [World.size_alloc] at hcc; have hbx := HX.out w' hb) | (go_at_call 88; refine (HL.out _).mono ?_; rintro e w3 ⟨rfl, rfl⟩) | (refine wpList_store_row rfl 87 (.tmp 4) (.tmp 41) rfl (w.heap.size + 1) _ rfl rfl 87 _ (HK.out _ hb) ?h1 ?h2 ?h3 ?h4))
   case h1 => kernel_rfl
   case h2 => rfl
   case h3 => simp [Value.oneCell']
   case h4 =>
    go_wp2
    refine bodyPost_ret (results_cell_row rfl _ _ (w.heap.size + 1) 87 _ (0, 0) _ rfl (setRow_heap _ _ _ _ _ _ (HK.out _ hb)) Try.underlying87 rfl (by kernel_rfl)) rfl ⟨?_, ?_⟩
    ·first | rfl | (rw [Int.add_comm]; rfl)
    ·exact Go.Det.below_setRow (hB0.trans (hb.mono hB0.size)) (by omega) _
def lowI (c : Int) : Int := if classP c = 2 then bits .or .u8 c 32 else c
def Row8 (W : World) (B : Nat) (xs : List Int) : Prop := ∃ (cs : Array Value), W.heap[B]? = some (.cells cs 5 (cs.size, cs.size + 1)) ∧ xs.length ≤ cs.size ∧ ∀ j, j < xs.length → cs[j]? = some (.int .u8 (xs.getD j 0))
theorem Row8.cell {W : World} {B : Nat} {xs : List Int} (h : Row8 W B xs) (j : Nat) (hj : j < xs.length) : W.cell? ⟨B, j, none⟩ = some (.int .u8 (xs.getD j 0)) := by
 obtain ⟨cs, h1, h2, h3⟩ := h
 simp only [World.cell?, h1]
 exact h3 j hj
theorem Row8.free {W : World} {B : Nat} {xs : List Int} (h : Row8 W B xs) (j : Nat) (hj : j < xs.length) : W.frozen? ⟨B, j, none⟩ = false := by
 obtain ⟨cs, h1, h2, h3⟩ := h
 simp only [World.frozen?, h1]
 simp
 omega
theorem Row8.set {W : World} {B : Nat} {xs : List Int} (h : Row8 W B xs) (j : Nat) (x : Int) : Row8 (W.setCell ⟨B, j, none⟩ (.int .u8 x)) B (xs.set j x) := by
 obtain ⟨cs, h1, h2, h3⟩ := h
 refine ⟨cs.setIfInBounds j (.int .u8 x), ?_, by simpa using h2, fun i hi => ?_⟩
 ·simp only [World.setCell, Array.getElem?_modify, if_pos, h1]
  simp
 ·simp at hi
  rw [Array.getElem?_setIfInBounds]
  by_cases hij : j = i
  ·subst hij
   simp [hi]
   omega
  ·have := h3 i hi
   simp [hij, this]
theorem Row8.below {W W' : World} {B : Nat} {xs : List Int} (h : Row8 W B xs) (hb : Below W.heap.size W W') : Row8 W' B xs := by
 obtain ⟨cs, h1, h2, h3⟩ := h
 exact ⟨cs, (hb.block _ (Array.getElem?_eq_some_iff.1 h1).1).trans h1, h2, h3⟩
def lowS (s : ByteArray) : ByteArray := strOfNums ((List.range s.size).map fun (j : Nat) => lowI (bt s (j : Int)))
def chars_Low.f (a0 : ByteArray) : Option ByteArray := if a0.size < 140737488355328 then some (lowS a0) else none
end Go.Proofs.Ythcmfjpheanphaa.Pr
namespace Go.Proofs.Ythcmfjpheanphaa.Pr
open Go.RowKit Go.Maps Go.Proofs.YthcmfjpheanphaaW.PrintWords
attribute [local go_sem] Oper.semAt_some
theorem conv_bytes (s : ByteArray) (W : World) : ∃ C W', (convert 9 68 (.string s)).run Try.prog W = .ok (.slice (some ⟨W.heap.size, 0, none⟩) s.size C) W' ∧ Below W.heap.size W W' ∧ ∀ j : Nat, j < s.size → W'.cell? ⟨W.heap.size, j, none⟩ = some (.int .u8 (bt s (j : Int))) := by
 have hb0 : Below W.heap.size W (Lib.bytesWorld W 5 s) := ⟨rfl, rfl, rfl, by rw [Lib.bytesWorld_size]; omega, fun k hk => Lib.bytesWorld_at_old W 5 s k hk⟩
 refine ⟨_, _, Lib.run_convert_string_bytes (P := Try.prog) W 9 68 5 s Try.underlying9 Try.underlying68 Try.underlying5, hb0, fun j hj => ?_⟩
 have hr0 : Row8 (Lib.bytesWorld W 5 s) W.heap.size ((List.range s.size).map fun (j : Nat) => bt s (j : Int)) := by
  refine ⟨Lib.bytesCells W 5 s, Lib.bytesWorld_at_new W 5 s, by simp [Lib.bytesCells], fun j hj => ?_⟩
  simp at hj
  have : j < s.data.size := hj
  simp [Lib.bytesCells, Array.getElem?_append, this, bt, hj]
  rfl
 rw [hr0.cell j (by simpa using hj)]
 simp [hj]
theorem kindsB_kid {r : List Opn} (h : KindsB r) : KindsB (kidP r) := by
 intro o ho
 unfold kidP at ho
 obtain ⟨y, hy, rfl | rfl⟩ := mem_modify ho
 ·exact h _ hy
 ·exact h y hy
set_option pp.maxSteps 3000 in
set_option maxRecDepth 100000 in
set_option maxHeartbeats 8000000 in
theorem texts_calls (B0 g m : Nat) (vr vt : Value) (s : Bld) (x : S47) (w : World) (hB0 : B0 ≤ w.heap.size) (hxs : x.f2.size ≤ 1000000) (hn : s.row.length ≤ 999999) (hnt : s.t.length ≤ 999999) (hkb : KindsB s.row) (hb : BAt w B0 g m vr vt s) :
  Calls Try.prog 92 #[.pointer (some ⟨g, 0, none⟩), .agg #[.int .i64 x.f0, .int .u8 x.f1, .string x.f2, .int .i64 x.f3]] w fun e w' =>
   e = .returned (.tuple #[.int .i64 (textsP s x).2.1, .int .i64 (textsP s x).2.2]) ∧ StepTo B0 g m (textsP s x).1 w w' := by
 obtain ⟨f0, k, f2, f3⟩ := x
 simp only at hxs
 obtain ⟨A, c, rfl⟩ := own_slice hb.row
 have hb1 : Below w.heap.size w (w.alloc (.cells #[.int .i64 f0, .int .u8 k, .string f2, .int .i64 f3] 47)) := (Below.refl _ w).alloc (Nat.le_refl _) _
 have hx := blk_new w (.cells #[.int .i64 f0, .int .u8 k, .string f2, .int .i64 f3] 47)
 have hbx := hb.below hb1
 obtain ⟨w1, hw1⟩ : ∃ w1, w.alloc (.cells #[.int .i64 f0, .int .u8 k, .string f2, .int .i64 f3] 47) = w1 := ⟨_, rfl⟩
 rw [hw1] at hb1 hx hbx
 have hmay := fun W (hW : BAt W B0 g m (.slice A s.row.length c) vt s) => may_calls B0 g m _ vt s 46 W (by omega) (by omega) (by omega) hkb hW
 have HM := Lib.hid hmay
 have HB := Lib.hid hbx
 have HB1 := Lib.hid hb1
 have HX := Lib.hid hx
 have HKB := Lib.hid hkb
 clear hb hb1 hx hbx hmay hkb
 cases hmm : mayP s.row 46 with
 | false =>
  have hP : textsP s ⟨f0, k, f2, f3⟩ = if blackP f2 f2.size 0 < f2.size then (s, wrap64 (f3 + blackP f2 f2.size 0), 2) else (s, f3, 0) := by unfold textsP; simp only [hmm]; rfl
  have HP := Lib.hid hP
  rw [hmm] at HM
  clear hP
  have HMM := Lib.hid hmm
  clear hmm
  have HCV := Lib.hid (fun W => conv_bytes f2 W)
  go_enter Try.func92, Try.ntmps92
  go_wp2_with (go_at_call 104; refine (HM.out _ HB.out).mono ?_; rintro e w2 ⟨rfl, hb2⟩; have cx2 := blk_cell (blk_below HX.out hb2) 2; have cx3 := blk_cell (blk_below HX.out hb2) 3; simp only [List.getElem?_toArray, List.getElem?_cons_succ, List.getElem?_cons_zero] at cx2 cx3; obtain ⟨C, W3, hcv, hb3, hcs⟩ := HCV.out w2; have HCS := Lib.hid hcs; clear hcs)
  have HW3 := Lib.hid (hb2.trans (hb3.mono hb2.size))
  clear hcv cx2 cx3
  go_loopw [17] (fun v wr => ∃ j : Nat, j ≤ f2.size ∧ v = .int .i64 j ∧ Below W3.heap.size W3 wr ∧ blackP f2 f2.size 0 = blackP f2 (f2.size - j) j) (fun v _ => f2.size - (intOf v).toNat)
  case atStart => exact ⟨0, Nat.zero_le _, rfl, Below.refl _ _, rfl⟩
  case round =>
   obtain ⟨j, hj, rfl, hB, hbl⟩ := hrel
   have HBL := Lib.hid hbl
   clear hbl
   have HBB := Lib.hid (HW3.out.trans (hB.mono HW3.out.size))
   have cx3 := blk_cell (blk_below HX.out HBB.out) 3
   simp only [List.getElem?_toArray, List.getElem?_cons_succ, List.getElem?_cons_zero] at cx3
   have HEND := Lib.hid (HB1.out.trans (HBB.out.mono HB1.out.size))
   by_cases hlt : j < f2.size
   ·have hlt1 : (j : Int) < (f2.size : Int) := by omega
    have q0 := HCS.out j hlt
    replace q0 := (hB.cell (World.block_lt_of_cell? W3 _ q0)).trans q0
    have hbr := bt_range f2 j
    have hst : blackP f2 (f2.size - j) j = if whiteT (bt f2 j) = true then blackP f2 (f2.size - (j + 1)) (j + 1) else j := by
     rw [show f2.size - j = (f2.size - (j + 1)) + 1 from by omega]
     simp only [blackP]
     rw [if_pos hlt]
    have hw := fun W => white_calls (bt f2 j) hbr.1 hbr.2 W
    have HST := Lib.hid hst
    obtain ⟨b, hbw⟩ : ∃ b, whiteP (bt f2 j) = b := ⟨_, rfl⟩
    rw [hbw] at hw
    have HBW := Lib.hid (show whiteT (bt f2 j) = b from hbw)
    have HW := Lib.hid hw
    clear hst hw hbw
    generalize bt f2 j = ch at *
    cases b
    ·go_wp2_with (go_at_call 35; refine (HW.out _).mono ?_; rintro e w4 ⟨rfl, hb4⟩; have cx3' := blk_cell (blk_below (blk_below HX.out HBB.out) hb4) 3; simp only [List.getElem?_toArray, List.getElem?_cons_succ, List.getElem?_cons_zero] at cx3')
     go_ret2
     have hres : blackP f2 f2.size 0 = j := by rw [HBL.out, HST.out, HBW.out]; rfl
     refine ⟨by rw [HP.out, hres, if_pos hlt]; rfl, ?_⟩
     rw [HP.out, hres, if_pos hlt]
     have HE2 := HEND.out.trans (hb4.mono HEND.out.size)
     exact StepTo.mk' ((HB.out.below HBB.out).below hb4) (below_low HE2 hB0) (KeepK.below HE2)
    ·go_wp2_with (go_at_call 35; refine (HW.out _).mono ?_; rintro e w4 ⟨rfl, hb4⟩)
     go_roundw
     case rel => exact ⟨j + 1, by omega, by go_num, hB.trans (hb4.mono hB.size), by rw [HBL.out, HST.out, HBW.out]; rfl⟩
     case measure => simp [intOf]; omega
   ·obtain rfl : j = f2.size := by omega
    have hlt1 : ¬ (f2.size : Int) < (f2.size : Int) := by omega
    go_wp2
    go_ret2
    have hres : ¬ blackP f2 f2.size 0 < f2.size := by rw [HBL.out, Nat.sub_self]; simp [blackP]
    refine ⟨by rw [HP.out, if_neg hres]; rfl, ?_⟩
    rw [HP.out, if_neg hres]
    exact StepTo.mk' (HB.out.below HBB.out) (below_low HEND.out hB0) (KeepK.below HEND.out)
 | true =>
  have HMM := Lib.hid hmm
  rw [hmm] at HM
  clear hmm
  go_enter Try.func92, Try.ntmps92
  go_wp2_with (go_at_call 104; (with_reducible refine (HM.out _ HB.out).mono ?_); rintro e w2 ⟨rfl, hb2⟩; have cx2 := blk_cell (blk_below HX.out hb2) 2; have cx3 := blk_cell (blk_below HX.out hb2) 3; simp only [List.getElem?_toArray, List.getElem?_cons_succ, List.getElem?_cons_zero] at cx2 cx3)
  have HW2 := Lib.hid (HB1.out.trans (hb2.mono HB1.out.size))
  refine (add_calls B0 g m (.slice A s.row.length c) vt s ⟨46, f2, f3, 1⟩ w2 (Nat.le_trans hB0 HW2.out.size) (by omega) (by omega) (HB.out.below hb2)).mono ?_
  rintro e W2 ⟨rfl, vt2, hbb, hl2, hk2⟩
  replace hbb : BAt W2 B0 g m (.slice A s.row.length c) vt2 ⟨kidP s.row, s.t ++ [⟨46, f2, f3, 1⟩]⟩ := hbb
  obtain ⟨E, hE⟩ : ∃ E, (addP s ⟨46, f2, f3, 1⟩).2 = E := ⟨_, rfl⟩
  rw [hE]
  have HE := Lib.hid (show (if 2000 < s.t.length + 1 then (4 : Int) else 0) = E from hE)
  have hX2 : W2.heap[w.heap.size]? = some (.cells #[.int .i64 f0, .int .u8 k, .string f2, .int .i64 f3] 47 (0, 0)) := hk2 _ _ (blk_below HX.out hb2) rfl
  have hR : (kidP s.row).length = s.row.length := kidP_length _
  have hkb2 := kindsB_kid HKB.out
  obtain ⟨r1, hr1⟩ : ∃ r1, kidP s.row = r1 := ⟨_, rfl⟩
  rw [hr1] at hbb hR hkb2
  rw [← hR] at hbb
  have HR1 := Lib.hid hr1
  have HLR := Lib.hid hR
  have hrl : r1.length ≤ 999999 := by omega
  have HK2 := Lib.hid hbb
  have HL2 := Lib.hid ((below_low HW2.out hB0).trans hl2)
  have HE2 := Lib.hid ((KeepK.below HW2.out).trans hk2)
  have HX2 := Lib.hid hX2
  have HKB2 := Lib.hid hkb2
  have d0 := blk_cell hbb.blk 0
  have y2 := blk_cell hX2 2
  have y3 := blk_cell hX2 3
  simp only [List.getElem?_toArray, List.getElem?_cons_succ, List.getElem?_cons_zero] at d0 y2 y3
  clear hE hR hr1 hbb hX2 hkb2 hl2 hk2 hb2 cx2 cx3 HX HB1 HW2 HM
  have hs2 := fun A' (hA : A' = A) => around_calls B0 A c r1 _ _ finds_n W2 (by omega) HKB2.out HK2.out.row
  have hac := hs2 A rfl
  clear hs2
  cases hA : aroundP [110] r1 r1.length with
  | none =>
   rw [hA] at hac
   have HAC := Lib.hid hac
   clear hac
   have HO := Lib.hid (show textsP s ⟨f0, k, f2, f3⟩ = (⟨r1, s.t ++ [⟨46, f2, f3, 1⟩]⟩, f3, E) from by
    unfold textsP
    simp only [HMM.out, if_true, HR1.out, hA, HE.out])
   go_wp2_with (go_at_call 133; (with_reducible refine HAC.out.mono ?_); rintro e W2 ⟨rfl, rfl⟩; simp only [ptrO])
   go_ret2
   refine ⟨by rw [HO.out]; rfl, ?_⟩
   rw [HO.out]
   exact StepTo.mk' HK2.out HL2.out HE2.out
  | some j =>
   have hjl := aroundP_lt _ _ _ _ hA
   obtain ⟨gr, ca, hae, hao⟩ := rowO_form HK2.out.row (by show 0 < r1.length; omega)
   simp only [Value.slice.injEq] at hae
   obtain ⟨rfl, -, rfl⟩ := hae
   rw [hA] at hac
   have HAC := Lib.hid hac
   obtain ⟨W3, hW3⟩ : ∃ W3, W2.drew = W3 := ⟨_, rfl⟩
   have hK3 : BAt W3 B0 g m (.slice (some ⟨gr, 0, none⟩) r1.length c) vt2 ⟨r1, s.t ++ [⟨46, f2, f3, 1⟩]⟩ := by rw [← hW3]; exact HK2.out.below (below_drew1 (Below.refl _ _))
   have hX3 : W3.heap[w.heap.size]? = some (.cells #[.int .i64 f0, .int .u8 k, .string f2, .int .i64 f3] 47 (0, 0)) := by rw [← hW3]; exact HX2.out
   have hL3 : Below B0 w W3 := by rw [← hW3]; exact below_drew1 HL2.out
   have hE3 : KeepK w W3 := by rw [← hW3]; exact HE2.out.drew
   have q6 := rowO_cell hK3.row j 6 hjl (by omega)
   have z6 := World.ownsRow.frozenAt hK3.row (j * 7 + 6)
   simp only [cellsO, List.getElem?_cons_succ, List.getElem?_cons_zero] at q6
   have x2 := blk_cell hX3 2
   simp only [List.getElem?_toArray, List.getElem?_cons_succ, List.getElem?_cons_zero] at x2
   have hse := BAt.setO (s := ⟨r1, s.t ++ [⟨46, f2, f3, 1⟩]⟩) hK3 j 6 hjl (by omega) (textF f2.size) (.int .i64 (wrap64 ((r1.getD j zOpn).text + f2.size))) rfl
   have HO := Lib.hid (show textsP s ⟨f0, k, f2, f3⟩ = (⟨r1.modify j (textF f2.size), s.t ++ [⟨46, f2, f3, 1⟩]⟩, f3, if 60 < wrap64 ((r1.getD j zOpn).text + f2.size) then 4 else E) from by
    unfold textsP
    simp only [HMM.out, if_true, HR1.out, hA]
    have hE := HE.out
    by_cases h60 : 60 < wrap64 ((r1.getD j zOpn).text + f2.size)
    ·rw [if_pos (.inl h60), if_pos h60]
    ·rw [if_neg h60, ← hE]
     by_cases h2 : 2000 < s.t.length + 1
     ·rw [if_pos (.inr h2), if_pos h2]
     ·rw [if_neg (fun h => h.elim h60 h2), if_neg h2])
   obtain ⟨tx, htx⟩ : ∃ tx, (r1.getD j zOpn).text = tx := ⟨_, rfl⟩
   rw [htx] at q6 hse HO
   have ha1 : (⟨gr, j * 7 + 6, none⟩ : Addr).block ≠ w.heap.size := fun e => by
    obtain ⟨cs, hcs⟩ := own_typed hK3.row gr rfl
    have e' : gr = w.heap.size := e
    rw [e', hX3] at hcs
    cases hcs
   have hX4 := blk_far hX3 (p := ⟨gr, j * 7 + 6, none⟩) (Ne.symm ha1) (.int .i64 (wrap64 (tx + f2.size)))
   have hrow6 : (W3.setCell ⟨gr, j * 7 + 6, none⟩ (.int .i64 (wrap64 (tx + f2.size)))).ownsRow B0 155 7 (.slice (some ⟨gr, 0, none⟩) (r1.modify j (textF f2.size)).length c) (r1.modify j (textF f2.size)).length (flatO (r1.modify j (textF f2.size))) := by
    have := hse.1.row
    unfold RowO at this
    simp only [List.length_modify] at this ⊢
    exact this
   have q6' := rowO_cell hrow6 j 6 (by simpa using hjl) (by omega)
   have x3' := blk_cell hX4 3
   simp only [List.getElem?_toArray, List.getElem?_cons_succ, List.getElem?_cons_zero] at x3'
   have q6'' : (W3.setCell ⟨gr, j * 7 + 6, none⟩ (.int .i64 (wrap64 (tx + f2.size)))).cell? ⟨gr, j * 7 + 6, none⟩ = some (.int .i64 (wrap64 (tx + f2.size))) := by
    rw [q6']
    have : (r1.modify j (textF f2.size)).getD j zOpn = textF f2.size (r1.getD j zOpn) := by
     rw [List.getD_eq_getElem?_getD, List.getD_eq_getElem?_getD, List.getElem?_modify, List.getElem?_eq_getElem hjl]
     simp
    simp only [cellsO, List.getElem?_cons_succ, List.getElem?_cons_zero]
    rw [this]
    unfold textF
    rw [htx]
   have H1 := Lib.hid q6''
   have H2 := Lib.hid x3'
   have H3 := Lib.hid hse
   have HC := Lib.hid (And.intro q6 (And.intro z6 x2))
   have HL3 := Lib.hid hL3
   have HE3 := Lib.hid hE3
   clear hrow6 q6'' q6' x3' hse q6 z6 x2 hK3 hX3 hL3 hE3 hX4 ha1 hac hao htx
   go_wp2_with (go_at_call 133; (with_reducible refine HAC.out.mono ?_); rintro e W2 ⟨rfl, rfl⟩; simp only [ptrO])
   refine Go.Det.region_det (fun W => W = W3) 10 (by kernel_rfl) (by kernel_rfl) (by kernel_rfl) (by decide) hW3 ?_
   repeat
    apply Go.Det.seqW_cons
    focus
     intro W hS
     obtain rfl : W = W3 := hS
     obtain ⟨q6, z6, x2⟩ := HC.out
     go_wp2
     exact Go.Det.AtEnd.mk rfl
   refine Go.Det.seqW_nil ?_
   intro W hS
   obtain rfl : W = W3 := hS
   simp only [List.drop_succ_cons, List.drop_zero]
   obtain ⟨q6, z6, x2⟩ := HC.out
   have q7 := H1.out
   have x3 := H2.out
   clear hW3
   by_cases h60 : 60 < wrap64 (tx + f2.size)
   all_goals
    go_wp2
    go_ret2
    refine ⟨by rw [HO.out]; first | (rw [if_pos h60]; rfl) | (rw [if_neg (Int.not_lt.2 h60)]; rfl) | (rw [if_neg h60]; rfl), ?_⟩
    rw [HO.out]
    exact StepTo.mk' H3.out.1 (HL3.out.trans H3.out.2.1) (HE3.out.trans H3.out.2.2)
end Go.Proofs.Ythcmfjpheanphaa.Pr
