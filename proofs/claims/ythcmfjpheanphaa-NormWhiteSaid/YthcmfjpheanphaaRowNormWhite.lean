/- The row of NormWhite. -/
import Derived.Test.YthcmfjpheanphaaRows
import Derived.WalkKit
import Derived.ProofKit
import Derived.OpenShut
import Derived.ShutString
import Derived.ChangeOld
import Derived.Below
import Derived.SizedLaws
import Derived.Carry
import Derived.ChangeSlices
import Derived.Test.YthcmfjpheanphaaXNormWhite1
import Derived.Test.YthcmfjpheanphaaXNormWhite2
import Derived.Test.YthcmfjpheanphaaXNormWhite3
import Derived.Test.YthcmfjpheanphaaXNormWhite4
import Derived.Test.YthcmfjpheanphaaXNormWhite5
import Derived.Test.YthcmfjpheanphaaXNormWhite6
import Derived.Test.YthcmfjpheanphaaXNormWhite7
import Derived.Test.YthcmfjpheanphaaXNormWhite8
import Derived.Test.YthcmfjpheanphaaXNormWhite9
import Derived.Test.YthcmfjpheanphaaXNormWhite10
import Derived.Test.YthcmfjpheanphaaXNormWhite11
import Derived.Test.YthcmfjpheanphaaXNormWhite12
import Derived.Test.YthcmfjpheanphaaXNormWhite13
import Derived.Test.YthcmfjpheanphaaXNormWhite14
namespace Go.Proofs.Ythcmfjpheanphaa.normWhite
open Go.ChangeShapes Go.WideShapes Go.ChangeAt Go.RowKit Go.Proofs.YthcmfjpheanphaaW.PrintWords
open Go.ChangeMaps (open_string shut_string)
set_option linter.unusedVariables false
theorem over : Rows.normWhiteRow.holds Try.pinned (OpenSpec.ofChange Rows.normWhiteSpec) :=
  OpenClaim.holds_of_wide 17 Try.f17 rfl rfl rfl rfl rfl rfl rfl ⟨rfl, rfl, rfl, rfl, rfl⟩ rfl rfl rfl rfl rfl (by kernel_rfl) Try.func17 (by kernel_rfl)
    (of_decide_eq_true (by kernel_rfl)) (by unfold Func.isWrapper; first | (rw [if_pos (by decide +kernel)]; kernel_rfl) | (rw [if_neg (by decide +kernel)]; exact ⟨rfl, rfl⟩))
    (fun os started H enc _ => lifted os started H enc)
theorem proved : Rows.NormWhiteSaid := over
#print axioms proved
end Go.Proofs.Ythcmfjpheanphaa.normWhite
namespace Go.Proofs.Ythcmfjpheanphaa
/-- The row, under a short name, for the claim. -/
theorem normWhite_holds : Rows.NormWhiteSaid := normWhite.proved
end Go.Proofs.Ythcmfjpheanphaa
