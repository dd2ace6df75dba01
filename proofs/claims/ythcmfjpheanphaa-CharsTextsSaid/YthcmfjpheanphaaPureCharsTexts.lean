/- The pure law of CharsTexts: of each text of 2000 bytes at most the program's small letters, case and runs are the document's. No condition but that a text fits in memory. -/
import Derived.Test.YthcmfjpheanphaaPt1
import Derived.Test.YthcmfjpheanphaaPureB
namespace Go.Proofs.Ythcmfjpheanphaa.Pure
open Go.RowKit Go.Proofs.Ythcmfjpheanphaa.Pr Go.Proofs.YthcmfjpheanphaaW.PrintWords Go.Proofs.YthcmfjpheanphaaW.PrintLast

theorem awake20 : styluslaw01_awake.f 20 = some true := by decide +kernel
theorem awake_at (k : Nat) (hk : 20 ≤ k) : styluslaw01_awake.f k = some true := at_rounds (fun k => styluslaw01_awake.mono k) hk awake20

theorem CharsTexts : styluslaw01_CharsTexts.Pure := by
  intro s h
  refine ⟨s.size + 40, ?_⟩
  unfold styluslaw01_CharsTexts.f
  by_cases h2 : s.size ≤ 2000
  · have hl : (runsL s s.size 0).length ≤ s.size := runsL_length s s.size 0
    rw [if_neg (by omega)]
    rw [show styluslaw01_runs.f s = some (runsL s s.size 0, true) from if_pos (by omega)]
    simp only [Option.bind_some, if_true]
    rw [show chars_Low.f s = some (lowS s) from if_pos (by omega), refLow_f s (by omega) _ (by omega)]
    simp only [Option.bind_some, if_true]
    rw [show chars_Case.f s = some (caseP s) from if_pos (by omega), refCase_f s (by omega) _ (by omega)]
    simp only [Option.bind_some, if_true]
    rw [show stylusref01_Runs.f s = some (refL s s.size) from if_pos (by omega), refRuns_eq]
    simp only [Option.bind_some]
    rw [same_f _ (by omega) _ (by omega), awake_at _ (by omega)]
    simp
  · rw [if_pos (by omega), awake_at _ (by omega)]
    rfl
end Go.Proofs.Ythcmfjpheanphaa.Pure
