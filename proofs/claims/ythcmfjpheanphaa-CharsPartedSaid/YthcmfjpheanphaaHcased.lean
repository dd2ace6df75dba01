/- The law CharsCased, walked by hand. -/
import Derived.Test.YthcmfjpheanphaaPureA
import Derived.Test.YthcmfjpheanphaaPc1
import Derived.Test.YthcmfjpheanphaaHlow
import Derived.Deep.RegionHeld3
import Derived.Deep.DeepCutAuto
import Derived.Test.YthcmfjpheanphaaHregion
namespace Go.Proofs.Ythcmfjpheanphaa.Pr
set_option linter.unusedVariables false
set_option linter.unusedSimpArgs false
open Go.RowKit Go.Proofs.YthcmfjpheanphaaW.PrintWords

def upI (c : Int) : Int := if classP c = 1 then bits .andNot .u8 c 32 else c
def letC (c : Int) : Bool := classP c == 1 || classP c == 2
def isI (c : Int) : Bool := !(classP c == 0) && !(classP c == 6)
theorem cased_fin : ∀ n : Fin 256, chars_Lower.f (n.val : Int) = some (lowI (n.val : Int)) ∧ chars_Upper.f (n.val : Int) = some (upI (n.val : Int)) ∧ chars_Letter.f (n.val : Int) = some (letC (n.val : Int)) ∧ chars_Is.f (n.val : Int) = some (isI (n.val : Int)) ∧
    (letC (n.val : Int) = true → chars_Lower.f (upI (n.val : Int)) = some (lowI (n.val : Int)) ∧ (upI (n.val : Int) == lowI (n.val : Int)) = false) ∧
    ((classP (n.val : Int) == 2) = true → chars_Upper.f (lowI (n.val : Int)) = some (n.val : Int)) ∧
    (isI (n.val : Int) = true → (classP (n.val : Int) == 0) = false) ∧ (classP (n.val : Int) = 2 → letC (n.val : Int) = true) ∧ (letC (n.val : Int) = true → isI (n.val : Int) = true) := by decide +kernel
theorem cased_at (c : Int) (h0 : 0 ≤ c) (h1 : c ≤ 255) : chars_Lower.f c = some (lowI c) ∧ chars_Upper.f c = some (upI c) ∧ chars_Letter.f c = some (letC c) ∧ chars_Is.f c = some (isI c) ∧
    (letC c = true → chars_Lower.f (upI c) = some (lowI c) ∧ (upI c == lowI c) = false) ∧
    ((classP c == 2) = true → chars_Upper.f (lowI c) = some c) ∧
    (isI c = true → (classP c == 0) = false) ∧ (classP c = 2 → letC c = true) ∧ (letC c = true → isI c = true) := by
  have := cased_fin ⟨c.toNat, by omega⟩
  simpa only [Int.toNat_of_nonneg h0] using this
theorem below_next (w : World) {W W' : World} (hb : Below W.heap.size W W') (h : Below w.heap.size w W) : Below w.heap.size w W' := h.trans (hb.mono h.size)
theorem awake1 : styluslaw01_awake.f 20 = some true := by decide +kernel

set_option maxRecDepth 100000 in
set_option maxHeartbeats 8000000 in
theorem cased_walk (s : ByteArray) (w : World) (hs : s.size ≤ 140737488351232) :
    Calls Try.prog 6 #[.string s] w fun e w' => e = .returned (.bool true) ∧ Below w.heap.size w w' := by
  by_cases h2 : s.size ≤ 2000
  case neg =>
    go_enter Try.func6, Try.ntmps6
    go_wp2_with (go_at_call 22; refine (styluslaw01_awake.calls 20 true _ awake1).mono ?_; rintro e w1 ⟨rfl, hb⟩)
    go_ret
    exact ⟨rfl, hb⟩
  have L1 : chars_Low.f s = some (lowS s) := if_pos (by omega)
  have L2 : chars_Low.f (lowS s) = some (lowS s) := by
    unfold chars_Low.f
    rw [if_pos (by rw [Pure.lowS_size]; omega), Pure.low_low]
  have C1 : chars_Case.f s = some (Pure.caseP s) := if_pos (by omega)
  have C2 : chars_Case.f (lowS s) = some (Pure.caseP (lowS s)) := if_pos (by rw [Pure.lowS_size]; omega)
  have hsz : (lowS s).size = s.size := Pure.lowS_size s
  have hbt : ∀ j : Nat, j < s.size → bt (lowS s) (j : Int) = lowI (bt s j) := fun j hj => Pure.lowS_bt s j hj
  have hcs : (Pure.caseP s = 0 ∧ Pure.caseP (lowS s) = 0) ∨ ((Pure.caseP s == 0) = false ∧ (Pure.caseP s != 0) = true ∧ Pure.caseP (lowS s) = 1) := by
    obtain ⟨k1, k2⟩ := Pure.case_low s
    by_cases h0 : Pure.caseP s = 0
    · exact .inl ⟨h0, k1.1 h0⟩
    · exact .inr ⟨by simpa using h0, by simpa using h0, k2 h0⟩
  generalize Pure.caseP s = n1 at *
  generalize Pure.caseP (lowS s) = n2 at *
  generalize lowS s = l at *
  have HL1 := Lib.hid L1
  have HL2 := Lib.hid L2
  have HC1 := Lib.hid C1
  have HC2 := Lib.hid C2
  have HB := Lib.hid hbt
  clear L1 L2 C1 C2 hbt
  have hB := Below.refl w.heap.size w
  go_enter Try.func6, Try.ntmps6
  go_upto_region 4 with (first | (go_at_call 26; first | (with_reducible refine (chars_Low.calls s _ _ HL1.out).mono ?_; rintro e w1 ⟨rfl, hb⟩; replace hB := hB.trans (hb.mono hB.size); clear hb) | (with_reducible refine (chars_Low.calls l _ _ HL2.out).mono ?_; rintro e w1 ⟨rfl, hb⟩; replace hB := hB.trans (hb.mono hB.size); clear hb)) | (go_at_call 28; first | (with_reducible refine (chars_Case.calls s _ _ HC1.out).mono ?_; rintro e w1 ⟨rfl, hb⟩; replace hB := hB.trans (hb.mono hB.size); clear hb) | (with_reducible refine (chars_Case.calls l _ _ HC2.out).mono ?_; rintro e w1 ⟨rfl, hb⟩; replace hB := hB.trans (hb.mono hB.size); clear hb)))
  go_cut [41] (fun v41 wc => v41 = .bool false ∧ Below w.heap.size w wc)
  case first =>
    rcases hcs with ⟨rfl, rfl⟩ | ⟨e1, e2, rfl⟩
    all_goals
      go_wp2_with (first | (go_at_call 26; first | (with_reducible refine (chars_Low.calls s _ _ HL1.out).mono ?_; rintro e w1 ⟨rfl, hb⟩; replace hB := hB.trans (hb.mono hB.size); clear hb) | (with_reducible refine (chars_Low.calls l _ _ HL2.out).mono ?_; rintro e w1 ⟨rfl, hb⟩; replace hB := hB.trans (hb.mono hB.size); clear hb)) | (go_at_call 28; first | (with_reducible refine (chars_Case.calls s _ _ HC1.out).mono ?_; rintro e w1 ⟨rfl, hb⟩; replace hB := hB.trans (hb.mono hB.size); clear hb) | (with_reducible refine (chars_Case.calls l _ _ HC2.out).mono ?_; rintro e w1 ⟨rfl, hb⟩; replace hB := hB.trans (hb.mono hB.size); clear hb)))
      go_meet
      exact ⟨rfl, hB⟩
  case rest =>
    clear hB
    obtain ⟨rfl, hB⟩ := hcut
    go_wp2
    go_loopw [4] (fun v wr => ∃ k : Nat, k ≤ s.size ∧ v = .int .i64 k ∧ Below w.heap.size w wr) (fun v _ => s.size - (intOf v).toNat)
    case atStart => exact ⟨0, by omega, rfl, hB⟩
    case round =>
      clear hB
      obtain ⟨k, hk, rfl, hB⟩ := hrel
      by_cases hlt : k < s.size
      · have hv := HB.out k hlt
        have hbr := bt_range s k
        obtain ⟨c, hc⟩ : ∃ c, bt s (k : Int) = c := ⟨_, rfl⟩
        rw [hc] at hv hbr
        obtain ⟨f1, f2, f3, f4, f5, f6, f7, f9, f10⟩ := cased_at c hbr.1 hbr.2
        have f8 := chars_Class.some_ c hbr.1 (by omega)
        generalize lowI c = lc at *
        generalize upI c = u at *
        generalize letC c = b1 at *
        generalize isI c = b2 at *
        have G1 := Lib.hid f1
        have G2 := Lib.hid f2
        have G3 := Lib.hid f3
        have G4 := Lib.hid f4
        have G8 := Lib.hid f8
        have HV := Lib.hid hv
        have HC := Lib.hid hc
        clear f1 f2 f3 f4 f8
        have hb2 : classP c = 2 ∨ (classP c == 2) = false := by by_cases h : classP c = 2 <;> simp [h]
        generalize classP c = cl at *
        cases b1 <;> rcases hb2 with rfl | hb2 <;> cases b2
        all_goals first
          | exact absurd (f9 rfl) (by decide)
          | exact absurd (f10 rfl) (by decide)
          | skip
        all_goals
          clear f9 f10
          have G5 := Lib.hid f5
          have G6 := Lib.hid f6
          have G7 := Lib.hid f7
          clear f5 f6 f7
          try (have f5a := (G5.out rfl).2; replace G5 := Lib.hid (G5.out rfl).1)
          try (replace G6 := Lib.hid (G6.out rfl))
          try (have f7 := G7.out rfl)
          have hl : (k : Int) < (s.size : Int) := by omega
          have hl2 : (k : Int) < (l.size : Int) := by omega
          have hk2 : k < l.size := by omega
          have hcr : ((s[k]'hlt).toNat : Int) = c := by
            have := bt_at s (k : Int) (by simpa using hlt)
            rw [← HC.out, ← this]; rfl
          have hlr : ((l[k]'hk2).toNat : Int) = lc := by
            have := bt_at l (k : Int) (by simpa using hk2)
            rw [← HV.out, ← this]; rfl
          clear hv hc
          go_wp2_with fail
          refine Go.Det.region_all (fun W => Below w.heap.size w W) (by kernel_rfl) (by kernel_rfl) (below_drew1 hB) ?_
          repeat (apply Go.Det.seqW_cons; focus (
            intro W hS
            replace hS : Below w.heap.size w W := hS
            go_wp2_with (first | (go_at_call 38; first | (with_reducible refine (chars_Lower.calls c _ _ G1.out).mono ?_; rintro e w1 ⟨rfl, hb⟩; replace hS := below_next w hb hS; clear hb) | (with_reducible refine (chars_Lower.calls u _ _ G5.out).mono ?_; rintro e w1 ⟨rfl, hb⟩; replace hS := below_next w hb hS; clear hb)) | (go_at_call 40; first | (with_reducible refine (chars_Upper.calls c _ _ G2.out).mono ?_; rintro e w1 ⟨rfl, hb⟩; replace hS := below_next w hb hS; clear hb) | (with_reducible refine (chars_Upper.calls lc _ _ G6.out).mono ?_; rintro e w1 ⟨rfl, hb⟩; replace hS := below_next w hb hS; clear hb)) | (go_at_call 36; first | (with_reducible refine (chars_Letter.calls c _ _ G3.out).mono ?_; rintro e w1 ⟨rfl, hb⟩; replace hS := below_next w hb hS; clear hb)) | (go_at_call 33; first | (with_reducible refine (chars_Is.calls c _ _ G4.out).mono ?_; rintro e w1 ⟨rfl, hb⟩; replace hS := below_next w hb hS; clear hb)) | (go_at_call 24; first | (with_reducible refine (chars_Class.calls c _ _ G8.out).mono ?_; rintro e w1 ⟨rfl, hb⟩; replace hS := below_next w hb hS; clear hb)))
            exact Go.Det.AtEnd.mk hS))
          refine Go.Det.seqW_nil ?_
          intro W hS
          replace hS : Below w.heap.size w W := hS
          simp only [Exit.then]
          go_wp2
          go_roundw
          case rel => exact ⟨k + 1, by omega, by go_num, hS⟩
          case measure => simp [intOf]; omega
      · go_wp2_with (go_at_call 22; refine (styluslaw01_awake.calls 20 true _ awake1).mono ?_; rintro e w1 ⟨rfl, hb⟩)
        go_ret
        exact ⟨rfl, hB.trans (hb.mono hB.size)⟩
end Go.Proofs.Ythcmfjpheanphaa.Pr
