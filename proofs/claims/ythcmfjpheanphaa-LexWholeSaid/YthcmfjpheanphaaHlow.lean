import Derived.Test.YthcmfjpheanphaaHclass
import Derived.Lib.ConvBytes
namespace Go.Proofs.Ythcmfjpheanphaa.Pr
set_option linter.unusedVariables false
set_option linter.unusedSimpArgs false
open Go.RowKit Go.Proofs.YthcmfjpheanphaaW.PrintWords

/-- a letter, lowered -/
def lowI (c : Int) : Int := if classP c = 2 then bits .or .u8 c 32 else c
set_option maxHeartbeats 400000 in
theorem lower_calls (c : Int) (w : World) (h0 : 0 ≤ c) (h1 : c < 256) :
    Calls Try.prog 38 #[.int .u8 c] w fun e w' => e = .returned (.int .u8 (lowI c)) ∧ Below w.heap.size w w' := by
  unfold lowI
  have hc := chars_Class.some_ c h0 h1
  by_cases h2 : classP c = 2
  · rw [if_pos h2]
    rw [h2] at hc
    have HC := Lib.hid hc
    clear hc h2
    go_enter Try.func38, Try.ntmps38
    go_wp2_with (go_at_call 24; refine (chars_Class.calls c _ _ HC.out).mono ?_; rintro e w1 ⟨rfl, hb⟩)
    go_ret
    exact ⟨rfl, hb⟩
  · rw [if_neg h2]
    have h3 : (classP c == 2) = false := beq_eq_false_iff_ne.2 h2
    have HC := Lib.hid hc
    clear hc h2
    go_enter Try.func38, Try.ntmps38
    go_wp2_with (go_at_call 24; refine (chars_Class.calls c _ _ HC.out).mono ?_; rintro e w1 ⟨rfl, hb⟩)
    go_ret
    exact ⟨rfl, hb⟩

/-- the bytes of a converted string, in a block of their own (marked behind its end) -/
def Row8 (W : World) (B : Nat) (xs : List Int) : Prop := ∃ (cs : Array Value), W.heap[B]? = some (.cells cs 5 (cs.size, cs.size + 1)) ∧ xs.length ≤ cs.size ∧ ∀ j, j < xs.length → cs[j]? = some (.int .u8 (xs.getD j 0))
theorem Row8.cell {W : World} {B : Nat} {xs : List Int} (h : Row8 W B xs) (j : Nat) (hj : j < xs.length) : W.cell? ⟨B, j, none⟩ = some (.int .u8 (xs.getD j 0)) := by
  obtain ⟨cs, h1, h2, h3⟩ := h
  simp only [World.cell?, h1]
  exact h3 j hj
theorem Row8.free {W : World} {B : Nat} {xs : List Int} (h : Row8 W B xs) (j : Nat) (hj : j < xs.length) : W.frozen? ⟨B, j, none⟩ = false := by
  obtain ⟨cs, h1, h2, h3⟩ := h
  simp only [World.frozen?, h1]
  simp
  omega
theorem Row8.set {W : World} {B : Nat} {xs : List Int} (h : Row8 W B xs) (j : Nat) (x : Int) : Row8 (W.setCell ⟨B, j, none⟩ (.int .u8 x)) B (xs.set j x) := by
  obtain ⟨cs, h1, h2, h3⟩ := h
  refine ⟨cs.setIfInBounds j (.int .u8 x), ?_, by simpa using h2, fun i hi => ?_⟩
  · simp only [World.setCell, Array.getElem?_modify, if_pos, h1]
    simp
  · simp at hi
    rw [Array.getElem?_setIfInBounds]
    by_cases hij : j = i
    · subst hij
      simp [hi]
      omega
    · have := h3 i hi
      simp [hij, this]
theorem Row8.below {W W' : World} {B : Nat} {xs : List Int} (h : Row8 W B xs) (hb : Below W.heap.size W W') : Row8 W' B xs := by
  obtain ⟨cs, h1, h2, h3⟩ := h
  exact ⟨cs, (hb.block _ (Array.getElem?_eq_some_iff.1 h1).1).trans h1, h2, h3⟩

/-- a string, its bytes lowered -/
def lowS (s : ByteArray) : ByteArray := strOfNums ((List.range s.size).map fun (j : Nat) => lowI (bt s (j : Int)))

set_option maxHeartbeats 1000000 in
theorem low_calls (s : ByteArray) (w : World) (hs : s.size < 140737488355328) :
    Calls Try.prog 26 #[.string s] w fun e w' => e = .returned (.string (lowS s)) ∧ Below w.heap.size w w' := by
  have hconv := Lib.run_convert_string_bytes (P := Try.prog) w 9 68 5 s Try.underlying9 Try.underlying68 Try.underlying5
  go_enter Try.func26, Try.ntmps26
  go_wp2
  have hr0 : Row8 (Lib.bytesWorld w 5 s) w.heap.size ((List.range s.size).map fun (j : Nat) => bt s (j : Int)) := by
    refine ⟨Lib.bytesCells w 5 s, Lib.bytesWorld_at_new w 5 s, by simp [Lib.bytesCells], fun j hj => ?_⟩
    simp at hj
    have : j < s.data.size := hj
    simp [Lib.bytesCells, Array.getElem?_append, this, bt, hj]
    rfl
  have hb0 : Below w.heap.size w (Lib.bytesWorld w 5 s) := ⟨rfl, rfl, rfl, by rw [Lib.bytesWorld_size]; omega, fun k hk => Lib.bytesWorld_at_old w 5 s k hk⟩
  have hz0 : w.heap.size < (Lib.bytesWorld w 5 s).heap.size := by rw [Lib.bytesWorld_size]; omega
  clear hconv
  generalize Lib.bytesWorld w 5 s = W0 at *
  generalize grownCap w s.size 0 5 = C0 at *
  go_loopw [10] (fun v wr => ∃ (k : Nat) (xs : List Int), k ≤ s.size ∧ v = .int .i64 k ∧ Below w.heap.size w wr ∧ w.heap.size < wr.heap.size ∧ Row8 wr w.heap.size xs ∧ xs.length = s.size ∧ (∀ j, j < k → xs.getD j 0 = lowI (bt s j)) ∧ (∀ j, k ≤ j → j < s.size → xs.getD j 0 = bt s j)) (fun v _ => s.size - (intOf v).toNat)
  case atStart => exact ⟨0, _, by omega, rfl, hb0, hz0, hr0, by simp, fun j hj => by omega, fun j _ hj => by simp [hj]⟩
  case round =>
    obtain ⟨k, xs, hk, rfl, hB, hz, hr, hxl, hlo, hhi⟩ := hrel
    by_cases hlt : k < s.size
    · have hv := hhi k (Nat.le_refl _) hlt
      have hbr := bt_range s k
      obtain ⟨c, hc⟩ : ∃ c, bt s (k : Int) = c := ⟨_, rfl⟩
      rw [hc] at hv hbr
      have hcell := hr.cell k (by omega)
      rw [hv] at hcell
      have H1 := Lib.hid hxl
      have H2 := Lib.hid hlo
      have H3 := Lib.hid hhi
      have H4 := Lib.hid hv
      have H5 := Lib.hid hc
      clear hxl hlo hhi hv hc hr0 hb0
      go_wp2_with (go_at_call 38; refine (lower_calls c _ hbr.1 (by omega)).mono ?_; rintro e w2 ⟨rfl, hb2⟩; have hr2 := hr.below hb2; have hc2 := hr2.cell k (by have := H1.out; omega); have hf2 := hr2.free k (by have := H1.out; omega); clear hcell)
      go_roundw
      case rel =>
        refine ⟨k + 1, _, by omega, by go_num, (hB.trans (hb2.mono hB.size)).setCell (Nat.le_refl _) _, by simp; exact Nat.lt_of_lt_of_le hz hb2.size, hr2.set k (lowI c), by simp [H1.out], fun j hj => ?_, fun j hj hj2 => ?_⟩
        · by_cases hjk : j = k
          · subst hjk
            simp [H1.out, hlt, H5.out]
          · have := H2.out j (by omega)
            simpa [List.getElem?_set_ne (Ne.symm hjk)] using this
        · have := H3.out j (by omega) hj2
          simpa [List.getElem?_set_ne (show k ≠ j by omega)] using this
      case measure => simp [intOf]; omega
    · have hcv := run_convert_bytes_arg (P := Try.prog) wr 68 5 Try.underlying68 Try.underlying5 w.heap.size 0 s.size C0 xs hxl (fun i hi => by rw [Nat.zero_add]; exact hr.cell i (by omega)) 9 Try.underlying9
      have hfin : xs = (List.range s.size).map fun (j : Nat) => lowI (bt s (j : Int)) := by
        apply List.ext_getElem
        · simp [hxl]
        · intro i h1 h2
          have := hlo i (by omega)
          simp [List.getElem?_eq_getElem h1] at this
          simp [this]
      have HF := Lib.hid hfin
      clear hfin hxl hlo hhi hr0 hb0
      go_wp2
      go_ret
      exact ⟨by rw [HF.out]; rfl, hB⟩
/-- chars.Low -/
def chars_Low.f (a0 : ByteArray) : Option ByteArray := if a0.size < 140737488355328 then some (lowS a0) else none
theorem chars_Low.calls (a0 : ByteArray) (r : ByteArray) (w : World) (h : chars_Low.f a0 = some r) :
    Calls Try.prog 26 #[.string a0] w fun e w' => e = .returned (.string r) ∧ Below w.heap.size w w' := by
  unfold chars_Low.f at h
  split at h
  · rename_i hc
    obtain rfl := Option.some.inj h
    exact low_calls a0 w hc
  · cases h
end Go.Proofs.Ythcmfjpheanphaa.Pr
