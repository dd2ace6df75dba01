/- The pure law of CharsOf: for each byte the program's answers are the document's. No condition but that the number is a byte. -/
import Derived.Test.YthcmfjpheanphaaPc1
namespace Go.Proofs.Ythcmfjpheanphaa.Pure
open Go.RowKit Go.Proofs.Ythcmfjpheanphaa.Pr Go.Proofs.YthcmfjpheanphaaW.PrintWords Go.Proofs.YthcmfjpheanphaaW.PrintLast

set_option maxRecDepth 100000 in
theorem charsOf_fin : ∀ n : Fin 256, styluslaw01_CharsOf.f 20 (n.val : Int) = some true := by decide +kernel

theorem CharsOf : styluslaw01_CharsOf.Pure := by
  intro a0 h
  have hw : 0 ≤ a0 ∧ a0 < 256 := by
    have hmin : IntKind.u8.min = 0 := rfl
    have hmax : IntKind.u8.max = 255 := rfl
    simp only [Lit.wf, Bool.and_eq_true, decide_eq_true_eq] at h
    omega
  refine ⟨20, ?_⟩
  have := charsOf_fin ⟨a0.toNat, by omega⟩
  simpa [Int.toNat_of_nonneg hw.1] using this
end Go.Proofs.Ythcmfjpheanphaa.Pure
