/- Texts of this seat, one behind the other. -/
import Derived.Deep.QuietTactic
import Derived.BigQuiet
import Derived.Test.YthcmfjpheanphaaXTreeMay1
import Derived.Test.YthcmfjpheanphaaXTreeMay2
import Derived.Test.YthcmfjpheanphaaXTreeMay3
import Derived.Test.YthcmfjpheanphaaXTreeMay4
import Derived.Test.YthcmfjpheanphaaXTreeMay5
import Derived.Test.YthcmfjpheanphaaXTreeMay6
import Derived.Test.YthcmfjpheanphaaXTreeMay7
import Derived.Test.YthcmfjpheanphaaXTreeMay8
set_option linter.unusedVariables false
set_option linter.unusedSimpArgs false
namespace Go.Proofs.Ythcmfjpheanphaa.Pr
open Go.RowKit Go.Maps Go.Proofs.YthcmfjpheanphaaW.PrintWords
attribute [local go_sem] Oper.semAt_some
theorem name_kind {k : Int} (h : 0 < (nameP k).size) : 0 ≤ k ∧ k ≤ 255 := by
 unfold nameP at h
 cases hf : (namesL.find? fun n => letP n == k) with
 | none => rw [hf] at h; exact absurd h (by decide)
 | some n =>
  have h1 := List.find?_some hf
  simp only [beq_iff_eq] at h1
  rw [← h1]
  exact letP_range n (List.mem_of_find?_eq_some hf)
theorem NodeAt_fit {s : ByteArray} {y : S56} (h : NodeAt s y) : y.f1.size ≤ s.size ∧ 0 ≤ y.f0 ∧ y.f0 ≤ 255 := by
 rcases h with ⟨h1, h2, p, q, h3, h4, h5, h6, h7⟩ | ⟨h1, h2, p, h3, h4, h5, h6, h7⟩
 ·exact ⟨by rw [h6, ByteArray.size_extract]; omega, by omega, by omega⟩
 ·have := name_kind h7
  exact ⟨by omega, this⟩
theorem quiet_left {P : Program} {f : FuncId} {args : Array Value} {w : World} {n : Nat} {v : Value}
  (h : Calls P f args (w.drewN n) fun e w' => e = .returned v ∧ w.drewN n = w') : Calls P f args (w.drewN n) fun e w'' => e = .returned v ∧ ∃ m, w'' = w.drewN m :=
 h.mono fun _ _ ⟨he, hm⟩ => ⟨he, n, hm.symm⟩
theorem cells4 {W : World} {g : Nat} {v0 v1 v2 v3 : Value} (h : W.heap[g]? = some (.cells #[v0, v1, v2, v3] 56)) :
  W.cell? ⟨g, 0, none⟩ = some v0 ∧ W.cell? ⟨g, 1, none⟩ = some v1 ∧ W.cell? ⟨g, 2, none⟩ = some v2 ∧ W.cell? ⟨g, 3, none⟩ = some v3 :=
 ⟨by have := blk_cell h 0; simpa using this, by have := blk_cell h 1; simpa using this, by have := blk_cell h 2; simpa using this, by have := blk_cell h 3; simpa using this⟩
theorem wrap_in {x : Int} (h1 : 0 ≤ x) (h2 : x ≤ 9000000) : IntKind.i64.wrap x = x := by
 obtain ⟨n, rfl⟩ : ∃ n : Nat, x = n := ⟨x.toNat, by omega⟩
 rw [IntWalk.i64_left]
 exact wrap_nat (n := n) (by omega)
set_option pp.maxSteps 60000 in
set_option maxRecDepth 100000 in
set_option maxHeartbeats 8000000 in
theorem treeMay_walk (a : ByteArray) (w : World) (w0 : a.size ≤ 140737488351232) :
  Calls Try.prog 13 #[.string a] w fun e w' => e = .returned (.bool true) ∧ Below w.heap.size w w' := by
 have Haw := Lib.hid (fun W => awake04_calls W)
 obtain ⟨⟨t, i, e⟩, h1⟩ : ∃ r, parseP a = r := ⟨_, rfl⟩
 have Hk1 := Lib.hid (fun W => parse_R a W w0 h1)
 by_cases he : e = 0
 ·subst he
  obtain ⟨hck, rfl, hl, hnodes, hrise, hsized⟩ := parse_may h1
  have hs8 : a.size ≤ 8192 := (parse_ok h1).2.1
  have HN := Lib.hid hnodes
  have HR := Lib.hid hrise
  have HS := Lib.hid hsized
  have HCK := Lib.hid hck
  clear h1 hnodes hrise hsized hck
  go_enter Try.func13, Try.ntmps13
  go_wp2_with fail
  refine (Hk1.out _).mono ?_
  rintro _ x1 ⟨v1, rfl, R1, B1⟩
  obtain ⟨A, c, rfl, hc, hC⟩ := Kd.R_reads R1
  have HC := Lib.hid hC
  have HB1 := Lib.hid B1
  have hchk := check_calls A c t x1 (by omega) (fun x hx => by
   obtain ⟨k1, k2, k3⟩ := NodeAt_fit (HN.out x hx)
   exact ⟨by omega, k2, k3⟩) hC hc
  rw [HCK.out] at hchk
  have HK2 := Lib.hid hchk
  clear hchk R1 B1 hC Hk1 HCK
  have hn : ¬ (2000 : Int) < (t.length : Int) := by omega
  go_wp2_with fail
  refine HK2.out.mono ?_
  rintro _ x2 ⟨rfl, B2⟩
  have HC2 := Lib.hid (Kd.C_below HC.out B2)
  have HB2 := Lib.hid (HB1.out.trans (B2.mono HB1.out.size))
  clear B2 HC HB1 HK2
  go_wp2_with fail
  go_loopw [6] (fun v wr => ∃ j : Nat, j ≤ t.length ∧ v = .int .i64 j ∧ Below w.heap.size w wr ∧ Below x2.heap.size x2 wr) (fun v _ => t.length - (intOf v).toNat)
  case atStart => exact ⟨0, Nat.zero_le _, rfl, HB2.out, Below.refl _ _⟩
  case round =>
   obtain ⟨j, hj, rfl, hW, hX⟩ := hrel
   by_cases hlt : j < t.length
   ·have hlt1 : (j : Int) < (t.length : Int) := by omega
    obtain ⟨m1, m2, m3, m4, m5, m6⟩ := may_node HN.out HR.out HS.out j hlt
    obtain ⟨ad, e1, q0, q1, q2, q3⟩ := at_T56 (Kd.C_below HC2.out hX) j (by omega) (by omega)
    subst e1
    simp only [Int.toNat_natCast] at q0 q1 q2 q3
    have hprev : j = 0 ∨ ∃ (k : Nat) (g2 : Int), (j : Int) = (k : Int) + 1 ∧ wr.cell? ⟨(ad.add (k * 4)).block, (ad.add (k * 4)).off + 2, none⟩ = some (.int .i64 g2) ∧ g2 < (rd_T56 t j).f2 := by
     rcases Nat.eq_zero_or_pos j with h | h
     ·exact .inl h
     ·obtain ⟨k, rfl⟩ : ∃ k, j = k + 1 := ⟨j - 1, by omega⟩
      obtain ⟨ad', e1, p0, p1, p2, p3⟩ := at_T56 (Kd.C_below HC2.out hX) k (by omega) (by omega)
      cases e1
      simp only [Int.toNat_natCast] at p2
      have := m3 (by omega)
      rw [Nat.add_sub_cancel] at this
      exact .inr ⟨k, _, by omega, p2, this⟩
    clear m3
    have hfs : (rd_T56 t j).f1.size ≤ 8192 := by
     have := (NodeAt_fit (HN.out _ (rd56_mem t j hlt))).1
     omega
    generalize rd_T56 t j = y at *
    obtain ⟨f0, f1, f2, f3⟩ := y
    simp only at q0 q1 q2 q3 m1 m2 m4 m5 m6 hprev hfs
    obtain ⟨r, rfl⟩ : ∃ r : Nat, f2 = (r : Int) := ⟨f2.toNat, by omega⟩
    obtain ⟨z, rfl⟩ : ∃ z : Nat, f3 = (z : Int) := ⟨f3.toNat, by omega⟩
    have HX := Lib.hid (blk_new wr (.cells #[.int .u8 f0, .string f1, .int .i64 r, .int .i64 z] 56))
    have hb0 : Below wr.heap.size wr (wr.alloc (.cells #[.int .u8 f0, .string f1, .int .i64 r, .int .i64 z] 56)) := (Below.refl _ _).alloc (Nat.le_refl _) _
    have HW0 := Lib.hid hW
    have HX0 := Lib.hid hX
    have hM := Lib.hid (And.intro m5 m6)
    clear m5 m6 m1 hW hX
    rcases hprev with hj0 | ⟨k, g2, hk, p2, hg⟩
    ·have HJ := Lib.hid hj0
     clear hb0 hj0
     go_wp2_with fail
     obtain ⟨x0, x1, x2', x3⟩ := cells4 HX.out
     have hj0 := HJ.out
     have hp : decide (0 < j) = false := decide_eq_false (by omega)
     have h1 : decide ((z : Int) < 1) = false := decide_eq_false (by omega)
     have h2 : decide ((t.length : Int) - (j : Int) < (z : Int)) = false := decide_eq_false (by omega)
     have h3 : decide ((a.size : Int) ≤ (r : Int)) = false := decide_eq_false (by omega)
     have h3' : decide (a.size ≤ r) = false := decide_eq_false (by omega)
     have hlj : IntKind.i64.wrap ((t.length : Int) - (j : Int)) = (t.length : Int) - (j : Int) := wrap_in (by omega) (by omega)
     clear hj0
     go_quiet (fail)
     clear x0 x1 x2' x3
     have hb5 : Below wr.heap.size wr ((wr.alloc (.cells #[.int .u8 f0, .string f1, .int .i64 r, .int .i64 z] 56)).drewN nq) := by apply pw_below_drewN; exact (Below.refl _ _).alloc (Nat.le_refl _) _
     have hX5 : ((wr.alloc (.cells #[.int .u8 f0, .string f1, .int .i64 r, .int .i64 z] 56)).drewN nq).heap[wr.heap.size]? = some (.cells #[.int .u8 f0, .string f1, .int .i64 r, .int .i64 z] 56) := HX.out
     obtain ⟨W5, hW5⟩ : ∃ W5, (wr.alloc (.cells #[.int .u8 f0, .string f1, .int .i64 r, .int .i64 z] 56)).drewN nq = W5 := ⟨_, rfl⟩
     rw [hW5] at hb5 hX5 ⊢
     clear hW5
     have HX5 := Lib.hid hX5
     have HB5 := Lib.hid (HW0.out.trans (hb5.mono HW0.out.size))
     have HXX := Lib.hid (HX0.out.trans (hb5.mono HX0.out.size))
     clear hX5 hb5
     go_wp2_with fail
     obtain ⟨x0, x1, x2', x3⟩ := cells4 HX5.out
     by_cases h46 : f0 = 46
     ·obtain ⟨g1, g2, g3⟩ := hM.out.1 h46
      rw [Int.toNat_natCast] at g3
      have k46 : (f0 == 46) = true := beq_iff_eq.2 h46
      have k46' : (f0 != 46) = false := by rw [h46]; rfl
      have hz1 : ((z : Int) != 1) = false := by rw [g1]; rfl
      have hz2 : z = 1 := by omega
      have hz1' : (z != 1) = false := by rw [hz2]; rfl
      clear hz2
      have hsl : ∀ W, (Instr.slice 9 (.string a) (some (.int .i64 (r : Int))) none none).run Try.prog W = .ok (.string (a.extract r a.size)) W := fun W => by
       have h2 : (r : Int) ≤ (a.size : Int) := by omega
       have h3 : r ≤ a.size := by omega
       simp [Instr.slice, Instr.sliceBounds, Instr.sliceBound, asIntOf, run_underlying Try.underlying9, h2, h3]
      have hpr : ∀ W, Calls Try.prog 58 #[.string (a.extract r a.size), .string f1] W fun e w' => e = .returned (.bool true) ∧ W = w' := fun W => by
       have := pref_calls (a.extract r a.size) f1 (by rw [ByteArray.size_extract]; omega) (by omega) W
       rw [g3] at this
       exact this
      have hem : f1.toList.isEmpty = false := by rw [empty_size]; exact decide_eq_false g2
      clear h46 g1 g3 g2
      go_quiet ((go_at_call 58; exact quiet_left (hpr _)))
      have hB6 := pw_below_drewN HB5.out nq
      have hX6 := pw_below_drewN HXX.out nq
      generalize W5.drewN nq = W6 at *
      have HB6 := Lib.hid hB6
      have HX6 := Lib.hid hX6
      clear x0 x1 x2' x3 hB6 hX6
      go_wp2_with fail
      refine ⟨⟨j + 1, by omega, by simp, HB6.out, HX6.out⟩, ?_⟩
      simp only [intOf]
      omega
     ·have k46 : (f0 == 46) = false := beq_eq_false_iff_ne.2 h46
      have k46' : (f0 != 46) = true := bne_iff_ne.2 h46
      have hb := hM.out.2 h46
      have hrl : r < a.size := by omega
      have hb2 : ((a[r]'hrl).toNat : Int) = 123 := by
       have := bt_at a (r : Int) (by simpa using hrl)
       rw [hb] at this
       simpa using this
      have hb3 : (((a[r]'hrl).toNat : Int) != 123) = false := by rw [hb2]; rfl
      clear h46 hb2
      go_quiet (fail)
      have hB6 := pw_below_drewN HB5.out nq
      have hX6 := pw_below_drewN HXX.out nq
      generalize W5.drewN nq = W6 at *
      have HB6 := Lib.hid hB6
      have HX6 := Lib.hid hX6
      clear x0 x1 x2' x3 hB6 hX6
      go_wp2_with fail
      refine ⟨⟨j + 1, by omega, by simp, HB6.out, HX6.out⟩, ?_⟩
      simp only [intOf]
      omega
    ·have p2' := (hb0.cell (World.block_lt_of_cell? wr _ p2)).trans p2
     have HJ := Lib.hid hk
     clear hb0 hk p2
     go_wp2_with fail
     obtain ⟨x0, x1, x2', x3⟩ := cells4 HX.out
     have hk := HJ.out
     have hp : decide (0 < j) = true := decide_eq_true (by omega)
     have hwr : IntKind.i64.wrap ((j : Int) - 1) = (k : Int) := by
      rw [show (j : Int) - 1 = (k : Int) from by omega]
      exact wrap_in (by omega) (by omega)
     have hjm : (j : Int) - 1 = (k : Int) := by omega
     have hkl : (k : Int) < (t.length : Int) := by omega
     have hg' : decide ((r : Int) ≤ g2) = false := decide_eq_false (by omega)
     have h1 : decide ((z : Int) < 1) = false := decide_eq_false (by omega)
     have h2 : decide ((t.length : Int) - (j : Int) < (z : Int)) = false := decide_eq_false (by omega)
     have h3 : decide ((a.size : Int) ≤ (r : Int)) = false := decide_eq_false (by omega)
     have h3' : decide (a.size ≤ r) = false := decide_eq_false (by omega)
     have hlj : IntKind.i64.wrap ((t.length : Int) - (j : Int)) = (t.length : Int) - (j : Int) := wrap_in (by omega) (by omega)
     clear hk
     go_quiet (fail)
     clear x0 x1 x2' x3
     have hb5 : Below wr.heap.size wr ((wr.alloc (.cells #[.int .u8 f0, .string f1, .int .i64 r, .int .i64 z] 56)).drewN nq) := by apply pw_below_drewN; exact (Below.refl _ _).alloc (Nat.le_refl _) _
     have hX5 : ((wr.alloc (.cells #[.int .u8 f0, .string f1, .int .i64 r, .int .i64 z] 56)).drewN nq).heap[wr.heap.size]? = some (.cells #[.int .u8 f0, .string f1, .int .i64 r, .int .i64 z] 56) := HX.out
     obtain ⟨W5, hW5⟩ : ∃ W5, (wr.alloc (.cells #[.int .u8 f0, .string f1, .int .i64 r, .int .i64 z] 56)).drewN nq = W5 := ⟨_, rfl⟩
     rw [hW5] at hb5 hX5 ⊢
     clear hW5
     have HX5 := Lib.hid hX5
     have HB5 := Lib.hid (HW0.out.trans (hb5.mono HW0.out.size))
     have HXX := Lib.hid (HX0.out.trans (hb5.mono HX0.out.size))
     clear hX5 hb5
     go_wp2_with fail
     obtain ⟨x0, x1, x2', x3⟩ := cells4 HX5.out
     by_cases h46 : f0 = 46
     ·obtain ⟨g1, g2, g3⟩ := hM.out.1 h46
      rw [Int.toNat_natCast] at g3
      have k46 : (f0 == 46) = true := beq_iff_eq.2 h46
      have k46' : (f0 != 46) = false := by rw [h46]; rfl
      have hz1 : ((z : Int) != 1) = false := by rw [g1]; rfl
      have hz2 : z = 1 := by omega
      have hz1' : (z != 1) = false := by rw [hz2]; rfl
      clear hz2
      have hsl : ∀ W, (Instr.slice 9 (.string a) (some (.int .i64 (r : Int))) none none).run Try.prog W = .ok (.string (a.extract r a.size)) W := fun W => by
       have h2 : (r : Int) ≤ (a.size : Int) := by omega
       have h3 : r ≤ a.size := by omega
       simp [Instr.slice, Instr.sliceBounds, Instr.sliceBound, asIntOf, run_underlying Try.underlying9, h2, h3]
      have hpr : ∀ W, Calls Try.prog 58 #[.string (a.extract r a.size), .string f1] W fun e w' => e = .returned (.bool true) ∧ W = w' := fun W => by
       have := pref_calls (a.extract r a.size) f1 (by rw [ByteArray.size_extract]; omega) (by omega) W
       rw [g3] at this
       exact this
      have hem : f1.toList.isEmpty = false := by rw [empty_size]; exact decide_eq_false g2
      clear h46 g1 g3 g2
      go_quiet ((go_at_call 58; exact quiet_left (hpr _)))
      have hB6 := pw_below_drewN HB5.out nq
      have hX6 := pw_below_drewN HXX.out nq
      generalize W5.drewN nq = W6 at *
      have HB6 := Lib.hid hB6
      have HX6 := Lib.hid hX6
      clear x0 x1 x2' x3 hB6 hX6
      go_wp2_with fail
      refine ⟨⟨j + 1, by omega, by simp, HB6.out, HX6.out⟩, ?_⟩
      simp only [intOf]
      omega
     ·have k46 : (f0 == 46) = false := beq_eq_false_iff_ne.2 h46
      have k46' : (f0 != 46) = true := bne_iff_ne.2 h46
      have hb := hM.out.2 h46
      have hrl : r < a.size := by omega
      have hb2 : ((a[r]'hrl).toNat : Int) = 123 := by
       have := bt_at a (r : Int) (by simpa using hrl)
       rw [hb] at this
       simpa using this
      have hb3 : (((a[r]'hrl).toNat : Int) != 123) = false := by rw [hb2]; rfl
      clear h46 hb2
      go_quiet (fail)
      have hB6 := pw_below_drewN HB5.out nq
      have hX6 := pw_below_drewN HXX.out nq
      generalize W5.drewN nq = W6 at *
      have HB6 := Lib.hid hB6
      have HX6 := Lib.hid hX6
      clear x0 x1 x2' x3 hB6 hX6
      go_wp2_with fail
      refine ⟨⟨j + 1, by omega, by simp, HB6.out, HX6.out⟩, ?_⟩
      simp only [intOf]
      omega
   ·have hlt1 : ¬ (j : Int) < (t.length : Int) := by omega
    have HWR := Lib.hid hW
    clear hW hX
    go_wp2_with (go_at_call 52; refine (Haw.out _).mono ?_; rintro _ w9 ⟨rfl, hb9⟩)
    go_ret
    exact ⟨rfl, HWR.out.trans (hb9.mono HWR.out.size)⟩
 ·obtain ⟨rfl, hi0, hi1⟩ := parse_place h1 he
  have heb : (e != 0) = true := bne_iff_ne.2 he
  have hg0 : 0 ≤ i := hi0
  clear he h1
  go_enter Try.func13, Try.ntmps13
  go_wp2_with fail
  refine (Hk1.out _).mono ?_
  rintro _ x1 ⟨v1, rfl, R1, B1⟩
  obtain ⟨A, c, rfl, hc, hC⟩ := Kd.R_reads R1
  have HB1 := Lib.hid B1
  clear R1 B1 hC Hk1
  go_wp2_with (go_at_call 52; refine (Haw.out _).mono ?_; rintro _ w9 ⟨rfl, hb9⟩)
  go_ret
  exact ⟨rfl, HB1.out.trans (hb9.mono HB1.out.size)⟩
end Go.Proofs.Ythcmfjpheanphaa.Pr
