/- lex.Name, walked by hand. -/
import Derived.Test.YthcmfjpheanphaaHlexa
namespace Go.Proofs.Ythcmfjpheanphaa.Pr
set_option linter.unusedVariables false
set_option linter.unusedSimpArgs false
open Go.RowKit Go.Proofs.YthcmfjpheanphaaW.PrintWords

theorem idxP_spec (p : ByteArray → Bool) : ∀ (xs : List ByteArray) (i : Int), (idxP p xs i = -1 ∧ xs.find? p = none) ∨ ∃ (j : Nat) (x : ByteArray), xs[j]? = some x ∧ idxP p xs i = i + j ∧ xs.find? p = some x ∧ p x = true
  | [], i => .inl ⟨rfl, rfl⟩
  | x :: xs, i => by
    cases hp : p x with
    | true => exact .inr ⟨0, x, rfl, by simp [idxP, hp], by simp [hp], hp⟩
    | false =>
      rcases idxP_spec p xs (i + 1) with ⟨h1, h2⟩ | ⟨j, y, h1, h2, h3, h4⟩
      · exact .inl ⟨by simp [idxP, hp, h1], by simp [hp, h2]⟩
      · exact .inr ⟨j + 1, y, by simpa using h1, by simp [idxP, hp, h2]; omega, by simp [hp, h3], h4⟩
theorem names_sizes : ∀ x ∈ namesL, 0 < x.size ∧ x.size ≤ 2 := by decide +kernel
/-- the name with a letter -/
def nameP (c : Int) : ByteArray := ((namesL.find? fun n => letP n == c)).getD ⟨#[]⟩
set_option maxHeartbeats 1000000 in
theorem name_calls (c : Int) (w : World) : Calls Try.prog 48 #[.int .u8 c] w fun e w' => e = .returned (.string (nameP c)) ∧ Below w.heap.size w w' := by
  have hB0 : Below w.heap.size w ((w.alloc (.cells #[.int .u8 c] 5)).alloc (.cells (namesL.map Value.string).toArray 9)) := ((Below.refl _ w).alloc (Nat.le_refl _) _).alloc (by simp) _
  have hfn := indexFunc_calls 87 #[.pointer (some ⟨w.heap.size, 0, none⟩)] (enters_of Try.func87 (by kernel_rfl) rfl) (fun n => letP n == c) namesL (w.heap.size + 1) 13 ((w.alloc (.cells #[.int .u8 c] 5)).alloc (.cells (namesL.map Value.string).toArray 9)) (by decide)
    (fun W hW j x hx => by have := names_cell hW j x hx; simpa using this)
    (fun x hx W hW => name1_calls x (names_sizes x hx).1 (by have := (names_sizes x hx).2; omega) c w.heap.size W (by have := hW.size; simp at this; omega)
      ((hW.cell (p := ⟨w.heap.size, 0, none⟩) (by simp; omega)).trans (by
        rw [blk_cell (blk_alloc (blk_new w (.cells #[.int .u8 c] 5)) _) 0]; rfl)))
  have hcell := fun W hW j x hx => names_cell (w := w.alloc (.cells #[.int .u8 c] 5)) (W := W) hW j x hx
  have HC := Lib.hid hcell
  have HF := Lib.hid hfn
  clear hfn hcell
  have hlen : namesL.length = 13 := rfl
  have hspec := idxP_spec (fun n => letP n == c) namesL 0
  unfold nameP
  rcases hspec with ⟨h1, h2⟩ | ⟨j, x, h1, h2, h3, _⟩
  · have H1 := Lib.hid h1
    rw [h2]
    clear h1 h2
    go_enter Try.func48, Try.ntmps48
    go_wp2_with (first | (go_at_call 85; refine (names_calls _).mono ?_; rintro e w' ⟨rfl, rfl⟩) | (go_at_call 86; refine HF.out.mono ?_; rintro e w' ⟨rfl, hb⟩; rw [H1.out]))
    go_ret
    exact ⟨rfl, hB0.trans (hb.mono hB0.size)⟩
  · rw [Int.zero_add] at h2
    have H1 := Lib.hid h2
    have hj : j < 13 := (List.getElem?_eq_some_iff.1 h1).1
    have hj0 : ¬ (j : Int) < 0 := by omega
    have hj2 : (j : Int) < 13 := by omega
    have HX := Lib.hid h1
    rw [h3]
    clear h1 h2 h3
    go_enter Try.func48, Try.ntmps48
    go_wp2_with (first | (go_at_call 85; refine (names_calls _).mono ?_; rintro e w' ⟨rfl, rfl⟩) | (go_at_call 86; refine HF.out.mono ?_; rintro e w' ⟨rfl, hb⟩; rw [H1.out]; have hcc := HC.out w' hb j x HX.out; simp only [World.size_alloc] at hcc))
    go_ret
    exact ⟨rfl, hB0.trans (hb.mono hB0.size)⟩
/-- lex.Name -/
def lex_Name.f (a0 : Int) : Option ByteArray := some (nameP a0)
theorem lex_Name.calls (a0 : Int) (r : ByteArray) (w : World) (h : lex_Name.f a0 = some r) :
    Calls Try.prog 48 #[.int .u8 a0] w fun e w' => e = .returned (.string r) ∧ Below w.heap.size w w' := by
  obtain rfl := Option.some.inj h
  exact name_calls a0 w
end Go.Proofs.Ythcmfjpheanphaa.Pr
