/- Texts of this seat, one behind the other. -/
import Derived.Test.YtbddfnmhhmkfkaaXLinesExact5
namespace Go.Proofs.Ytbddfnmhhmkfkaa.Pr
set_option linter.unusedVariables false
open Go.RowKit Go.Proofs.YtbddfnmhhmkfkaaW.PrintWords
theorem linesExact_walk (A0 : Option Addr) (c0 : Nat) (l0 : List S101) (A1 : Option Addr) (c1 : Nat) (l1 : List S43) (a2 : Int) (A3 : Option Addr) (c3 : Nat) (l3 : List Int) (w : World) (hr0 : Kd.C k101 w A0 l0.length l0) (hc0 : l0.length ≤ c0) (h0 : l0.length * 24 ≤ 140737488351232)
  (hr1 : Kd.C k43 w A1 l1.length l1) (hc1 : l1.length ≤ c1) (_ : l1.length * 40 ≤ 140737488351232) (hr3 : Kd.C (Kd.int .i64) w A3 l3.length l3) (hc3 : l3.length ≤ c3) (_ : l3.length * 8 ≤ 140737488351232) :
  Calls Try.prog 8 #[.slice A0 l0.length c0, .slice A1 l1.length c1, .int .i64 a2, .slice A3 l3.length c3] w fun e w' => e = .returned (.bool true) ∧ Below w.heap.size w w' :=
 linesExact_calls A0 c0 l0 A1 c1 l1 a2 A3 c3 l3 w hr0 hc0 hr1 hc1 hr3 hc3
end Go.Proofs.Ytbddfnmhhmkfkaa.Pr
