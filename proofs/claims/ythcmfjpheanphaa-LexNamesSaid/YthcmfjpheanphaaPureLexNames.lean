/- The pure law of LexNames: the name of each letter, and all letters, are the document's. No condition but that the number is a byte. -/
import Derived.Test.YthcmfjpheanphaaPn3
namespace Go.Proofs.Ythcmfjpheanphaa.Pure
open Go.RowKit Go.Proofs.Ythcmfjpheanphaa.Pr Go.Proofs.YthcmfjpheanphaaW.PrintWords Go.Proofs.YthcmfjpheanphaaW.PrintLast

set_option maxRecDepth 100000 in
theorem lexNames_fin : ∀ n : Fin 256, stylusref03_Name.f 20 (n.val : Int) = lex_Name.f (n.val : Int) := by decide +kernel
theorem lexLetters_at : lex_Letters.f 20 = stylusref03_Letters.f := by decide +kernel
set_option maxRecDepth 100000 in
theorem lexAwake : styluslaw03_awake.f 20 = some true := by decide +kernel

theorem LexNames : styluslaw03_LexNames.Pure := by
  intro a0 h
  have hw : 0 ≤ a0 ∧ a0 < 256 := by
    have hmin : IntKind.u8.min = 0 := rfl
    have hmax : IntKind.u8.max = 255 := rfl
    simp only [Lit.wf, Bool.and_eq_true, decide_eq_true_eq] at h
    omega
  refine ⟨20, ?_⟩
  have h1 := lexNames_fin ⟨a0.toNat, by omega⟩
  simp only [Int.toNat_of_nonneg hw.1] at h1
  unfold styluslaw03_LexNames.f
  rw [h1, lexLetters_at, lexAwake]
  simp [lex_Name.f, stylusref03_Letters.f]
end Go.Proofs.Ythcmfjpheanphaa.Pure
