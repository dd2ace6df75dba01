/- The row of NormForms. -/
import Derived.Test.YthcmfjpheanphaaRows
import Derived.WalkKit
import Derived.ProofKit
import Derived.OpenShut
import Derived.ShutString
import Derived.ChangeOld
import Derived.Below
import Derived.SizedLaws
import Derived.Carry
import Derived.ChangeSlices
import Derived.Test.YthcmfjpheanphaaXNormForms1
import Derived.Test.YthcmfjpheanphaaXNormForms2
import Derived.Test.YthcmfjpheanphaaXNormForms3
import Derived.Test.YthcmfjpheanphaaXNormForms4
import Derived.Test.YthcmfjpheanphaaXNormForms5
import Derived.Test.YthcmfjpheanphaaXNormForms6
import Derived.Test.YthcmfjpheanphaaXNormForms7
import Derived.Test.YthcmfjpheanphaaXNormForms8
import Derived.Test.YthcmfjpheanphaaXNormForms9
import Derived.Test.YthcmfjpheanphaaXNormForms10
import Derived.Test.YthcmfjpheanphaaXNormForms11
import Derived.Test.YthcmfjpheanphaaXNormForms12
import Derived.Test.YthcmfjpheanphaaXNormForms13
import Derived.Test.YthcmfjpheanphaaXNormForms14
namespace Go.Proofs.Ythcmfjpheanphaa.normForms
open Go.ChangeShapes Go.WideShapes Go.ChangeAt Go.RowKit Go.Proofs.YthcmfjpheanphaaW.PrintWords
open Go.ChangeMaps (open_string shut_string)
set_option linter.unusedVariables false
theorem over : Rows.normFormsRow.holds Try.pinned (OpenSpec.ofChange Rows.normFormsSpec) :=
  OpenClaim.holds_of_wide 16 Try.f16 rfl rfl rfl rfl rfl rfl rfl ⟨rfl, rfl, rfl, rfl, rfl⟩ rfl rfl rfl rfl rfl (by kernel_rfl) Try.func16 (by kernel_rfl)
    (of_decide_eq_true (by kernel_rfl)) (by unfold Func.isWrapper; first | (rw [if_pos (by decide +kernel)]; kernel_rfl) | (rw [if_neg (by decide +kernel)]; exact ⟨rfl, rfl⟩))
    (fun os started H enc _ => lifted os started H enc)
theorem proved : Rows.NormFormsSaid := over
#print axioms proved
end Go.Proofs.Ythcmfjpheanphaa.normForms
namespace Go.Proofs.Ythcmfjpheanphaa
/-- The row, under a short name, for the claim. -/
theorem normForms_holds : Rows.NormFormsSaid := normForms.proved
end Go.Proofs.Ythcmfjpheanphaa
