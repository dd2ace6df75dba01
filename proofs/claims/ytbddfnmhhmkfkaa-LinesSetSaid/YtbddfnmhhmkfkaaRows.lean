/-
  No cell of these rows narrows 'for every input' (looked for: loops, veiled, ifaces, maps, wideKeys, modest, calm, conditions, laid).
  DERIVED. THE GIVEN ROWS OF THIS SEAT. 8 by the template 'for every input the law returns true; each argument reads behind the call as it read before'; 0 by the template 'total and deterministic' (their statements: YtbddfnmhhmkfkaaTotals.lean).
  GIVEN WITH THE SEED: the statements are not yours to turn. If you find one false, say at which input.
  Laid BY PROGRAM, IN A SANDBOX (cutbox-rows.mjs): the forced cells as the released guide's own fill.sh prints them over the translation 186f629db7ba103b… (all of the seat's roots in one cut). By AI agents, Wed Nov 11 2026. No macro, syntax, notation, axiom, sorry.
-/
import Derived.Test.YtbddfnmhhmkfkaaChecked
import GoSem.Claim
import GoSem.ClaimJoined
import GoSem.ClaimMapViews
import Derived.JoinedTies
import Derived.KernelRfl
namespace Go.Proofs.Ytbddfnmhhmkfkaa
/- THE CELL 'sum', in the pinned program and in every row, IS THE sha256 OF THE DUMP (.gsa) THAT YtbddfnmhhmkfkaaProg.lean LOADS. Nothing in Lean hashes anything: it is a label: what it is worth is what the hold of that sum in a sandbox is worth. -/
noncomputable def Try.pinned : Pinned := { name := "ytbddfnmhhmkfkaa", sum := "186f629db7ba103bce97c12fcfa9ade8ac3c22fe42e52d37f0605b0f3d8ca7b5", checked := Try.checked }
namespace Rows
def none {H : Type} : Left H := { results := [], args := [] }

/-- 'styluslaw19.BestOf': WHATEVER THE INPUT: true; the input reads as it did. -/
def bestOfSpec : ChangeSpec := { name := "bestOf", fn := fun _ => fun
  | [d1, d2] => { results := [.lit (.bool true)], args := [d1, d2] }
  | _ => none }
def bestOfRow : OpenClaim := { program := "ytbddfnmhhmkfkaa", sum := "186f629db7ba103bce97c12fcfa9ade8ac3c22fe42e52d37f0605b0f3d8ca7b5", func := "stylus/styluslaw19.BestOf", spec := "bestOf", unfollowed := true, recurses := true, apart := false }
def BestOfSaid : Prop := bestOfRow.holds Try.pinned (OpenSpec.ofChange bestOfSpec)

/-- ITS FALSE NEIGHBOUR: 'it returns false'. Refute it at one input. -/
def bestOfWrong : ChangeSpec := { name := "bestOf", fn := fun _ => fun
  | [d1, d2] => { results := [.lit (.bool false)], args := [d1, d2] }
  | _ => none }
def BestOfWrongFalsely : Prop := bestOfRow.holds Try.pinned (OpenSpec.ofChange bestOfWrong)

/-- 'styluslaw19.BestLines': WHATEVER THE INPUT: true; the input reads as it did. -/
def bestLinesSpec : ChangeSpec := { name := "bestLines", fn := fun _ => fun
  | [d1, d2, d3, d4, d5] => { results := [.lit (.bool true)], args := [d1, d2, d3, d4, d5] }
  | _ => none }
def bestLinesRow : OpenClaim := { program := "ytbddfnmhhmkfkaa", sum := "186f629db7ba103bce97c12fcfa9ade8ac3c22fe42e52d37f0605b0f3d8ca7b5", func := "stylus/styluslaw19.BestLines", spec := "bestLines", unfollowed := true, recurses := true, apart := false }
def BestLinesSaid : Prop := bestLinesRow.holds Try.pinned (OpenSpec.ofChange bestLinesSpec)

/-- ITS FALSE NEIGHBOUR: 'it returns false'. Refute it at one input. -/
def bestLinesWrong : ChangeSpec := { name := "bestLines", fn := fun _ => fun
  | [d1, d2, d3, d4, d5] => { results := [.lit (.bool false)], args := [d1, d2, d3, d4, d5] }
  | _ => none }
def BestLinesWrongFalsely : Prop := bestLinesRow.holds Try.pinned (OpenSpec.ofChange bestLinesWrong)

/-- 'styluslaw19.BestLeast': WHATEVER THE INPUT: true; the input reads as it did. -/
def bestLeastSpec : ChangeSpec := { name := "bestLeast", fn := fun _ => fun
  | [d1, d2, d3] => { results := [.lit (.bool true)], args := [d1, d2, d3] }
  | _ => none }
def bestLeastRow : OpenClaim := { program := "ytbddfnmhhmkfkaa", sum := "186f629db7ba103bce97c12fcfa9ade8ac3c22fe42e52d37f0605b0f3d8ca7b5", func := "stylus/styluslaw19.BestLeast", spec := "bestLeast", unfollowed := true, recurses := true, apart := false }
def BestLeastSaid : Prop := bestLeastRow.holds Try.pinned (OpenSpec.ofChange bestLeastSpec)

/-- ITS FALSE NEIGHBOUR: 'it returns false'. Refute it at one input. -/
def bestLeastWrong : ChangeSpec := { name := "bestLeast", fn := fun _ => fun
  | [d1, d2, d3] => { results := [.lit (.bool false)], args := [d1, d2, d3] }
  | _ => none }
def BestLeastWrongFalsely : Prop := bestLeastRow.holds Try.pinned (OpenSpec.ofChange bestLeastWrong)

/-- 'styluslaw19.BestWider': WHATEVER THE INPUT: true; the input reads as it did. -/
def bestWiderSpec : ChangeSpec := { name := "bestWider", fn := fun _ => fun
  | [d1, d2] => { results := [.lit (.bool true)], args := [d1, d2] }
  | _ => none }
def bestWiderRow : OpenClaim := { program := "ytbddfnmhhmkfkaa", sum := "186f629db7ba103bce97c12fcfa9ade8ac3c22fe42e52d37f0605b0f3d8ca7b5", func := "stylus/styluslaw19.BestWider", spec := "bestWider", unfollowed := true, recurses := true, apart := false }
def BestWiderSaid : Prop := bestWiderRow.holds Try.pinned (OpenSpec.ofChange bestWiderSpec)

/-- ITS FALSE NEIGHBOUR: 'it returns false'. Refute it at one input. -/
def bestWiderWrong : ChangeSpec := { name := "bestWider", fn := fun _ => fun
  | [d1, d2] => { results := [.lit (.bool false)], args := [d1, d2] }
  | _ => none }
def BestWiderWrongFalsely : Prop := bestWiderRow.holds Try.pinned (OpenSpec.ofChange bestWiderWrong)

/-- 'styluslaw20.LinesSet': WHATEVER THE INPUT: true; the input reads as it did. -/
def linesSetSpec : ChangeSpec := { name := "linesSet", fn := fun _ => fun
  | [d1, d2, d3, d4] => { results := [.lit (.bool true)], args := [d1, d2, d3, d4] }
  | _ => none }
def linesSetRow : OpenClaim := { program := "ytbddfnmhhmkfkaa", sum := "186f629db7ba103bce97c12fcfa9ade8ac3c22fe42e52d37f0605b0f3d8ca7b5", func := "stylus/styluslaw20.LinesSet", spec := "linesSet", unfollowed := true, recurses := true, apart := false }
def LinesSetSaid : Prop := linesSetRow.holds Try.pinned (OpenSpec.ofChange linesSetSpec)

/-- ITS FALSE NEIGHBOUR: 'it returns false'. Refute it at one input. -/
def linesSetWrong : ChangeSpec := { name := "linesSet", fn := fun _ => fun
  | [d1, d2, d3, d4] => { results := [.lit (.bool false)], args := [d1, d2, d3, d4] }
  | _ => none }
def LinesSetWrongFalsely : Prop := linesSetRow.holds Try.pinned (OpenSpec.ofChange linesSetWrong)

/-- 'styluslaw20.LinesExact': WHATEVER THE INPUT: true; the input reads as it did. -/
def linesExactSpec : ChangeSpec := { name := "linesExact", fn := fun _ => fun
  | [d1, d2, d3, d4] => { results := [.lit (.bool true)], args := [d1, d2, d3, d4] }
  | _ => none }
def linesExactRow : OpenClaim := { program := "ytbddfnmhhmkfkaa", sum := "186f629db7ba103bce97c12fcfa9ade8ac3c22fe42e52d37f0605b0f3d8ca7b5", func := "stylus/styluslaw20.LinesExact", spec := "linesExact", unfollowed := true, recurses := true, apart := false }
def LinesExactSaid : Prop := linesExactRow.holds Try.pinned (OpenSpec.ofChange linesExactSpec)

/-- ITS FALSE NEIGHBOUR: 'it returns false'. Refute it at one input. -/
def linesExactWrong : ChangeSpec := { name := "linesExact", fn := fun _ => fun
  | [d1, d2, d3, d4] => { results := [.lit (.bool false)], args := [d1, d2, d3, d4] }
  | _ => none }
def LinesExactWrongFalsely : Prop := linesExactRow.holds Try.pinned (OpenSpec.ofChange linesExactWrong)

/-- 'styluslaw20.LinesFilled': WHATEVER THE INPUT: true; the input reads as it did. -/
def linesFilledSpec : ChangeSpec := { name := "linesFilled", fn := fun _ => fun
  | [d1, d2] => { results := [.lit (.bool true)], args := [d1, d2] }
  | _ => none }
def linesFilledRow : OpenClaim := { program := "ytbddfnmhhmkfkaa", sum := "186f629db7ba103bce97c12fcfa9ade8ac3c22fe42e52d37f0605b0f3d8ca7b5", func := "stylus/styluslaw20.LinesFilled", spec := "linesFilled", unfollowed := true, recurses := true, apart := false }
def LinesFilledSaid : Prop := linesFilledRow.holds Try.pinned (OpenSpec.ofChange linesFilledSpec)

/-- ITS FALSE NEIGHBOUR: 'it returns false'. Refute it at one input. -/
def linesFilledWrong : ChangeSpec := { name := "linesFilled", fn := fun _ => fun
  | [d1, d2] => { results := [.lit (.bool false)], args := [d1, d2] }
  | _ => none }
def LinesFilledWrongFalsely : Prop := linesFilledRow.holds Try.pinned (OpenSpec.ofChange linesFilledWrong)

/-- 'styluslaw20.LinesFill': WHATEVER THE INPUT: true; the input reads as it did. -/
def linesFillSpec : ChangeSpec := { name := "linesFill", fn := fun _ => fun
  | [d1, d2, d3, d4] => { results := [.lit (.bool true)], args := [d1, d2, d3, d4] }
  | _ => none }
def linesFillRow : OpenClaim := { program := "ytbddfnmhhmkfkaa", sum := "186f629db7ba103bce97c12fcfa9ade8ac3c22fe42e52d37f0605b0f3d8ca7b5", func := "stylus/styluslaw20.LinesFill", spec := "linesFill", inPlace := ["internal/abi.NoEscape"], unfollowed := true, recurses := true, apart := false }
def LinesFillSaid : Prop := linesFillRow.holds Try.pinned (OpenSpec.ofChange linesFillSpec)

/-- ITS FALSE NEIGHBOUR: 'it returns false'. Refute it at one input. -/
def linesFillWrong : ChangeSpec := { name := "linesFill", fn := fun _ => fun
  | [d1, d2, d3, d4] => { results := [.lit (.bool false)], args := [d1, d2, d3, d4] }
  | _ => none }
def LinesFillWrongFalsely : Prop := linesFillRow.holds Try.pinned (OpenSpec.ofChange linesFillWrong)

/- THE SECOND FORM. 'bulk': how many values and letters a reading holds, each counted each time it is reached (what is shared counts as often as it is met; a slice's spare places count too). A statement '..UptoSaid' is the law's where the arguments, and the package variables that the reading takes, are together of bulk at most 1048576: NARROWER than '..Said'. Prove '..Said' where nothing that the law and all that it calls make is longer than what came in: it says more and counts as full. Else prove '..UptoSaid'. A law counts once. -/
mutual
def uptoBulk {H : Type} : DataW H → Nat
  | .lit (.string bytes) => bytes.length + 1
  | .lit _ => 1
  | .nil => 1
  | .ptr d => uptoBulk d + 1
  | .slice elems spare => uptoBulkAll elems + uptoBulkAll spare + 1
  | .agg parts => uptoBulkAll parts + 1
  | .iface _ d => uptoBulk d + 1
  | .map entries => uptoBulkEntries entries + 1
  | .held _ => 1
def uptoBulkAll {H : Type} : List (DataW H) → Nat
  | [] => 0
  | d :: r => uptoBulk d + uptoBulkAll r
def uptoBulkEntries {H : Type} : List (Lit × DataW H) → Nat
  | [] => 0
  | x :: r => uptoBulkEntry x + uptoBulkEntries r
def uptoBulkEntry {H : Type} : Lit × DataW H → Nat
  | (.string bytes, d) => bytes.length + uptoBulk d + 1
  | (_, d) => uptoBulk d + 1
 end
def uptoSmall : (H : Type) → List (DataW H) → Bool := fun _ ds => decide (uptoBulkAll ds ≤ 1048576)
def OpenSpec.upto (s : _root_.Go.ChangeSpec) : _root_.Go.OpenSpec := { _root_.Go.OpenSpec.ofChange s with cond := some uptoSmall }

/-- 'styluslaw19.BestOf', WHERE WHAT IT READS IS OF BULK AT MOST 1048576: true; the input reads as it did. -/
def bestOfUptoRow : OpenClaim := { program := "ytbddfnmhhmkfkaa", sum := "186f629db7ba103bce97c12fcfa9ade8ac3c22fe42e52d37f0605b0f3d8ca7b5", func := "stylus/styluslaw19.BestOf", spec := "bestOf", unfollowed := true, recurses := true, apart := false, narrowed := true }
def BestOfUptoSaid : Prop := bestOfUptoRow.holds Try.pinned (OpenSpec.upto bestOfSpec)

/-- 'styluslaw19.BestLines', WHERE WHAT IT READS IS OF BULK AT MOST 1048576: true; the input reads as it did. -/
def bestLinesUptoRow : OpenClaim := { program := "ytbddfnmhhmkfkaa", sum := "186f629db7ba103bce97c12fcfa9ade8ac3c22fe42e52d37f0605b0f3d8ca7b5", func := "stylus/styluslaw19.BestLines", spec := "bestLines", unfollowed := true, recurses := true, apart := false, narrowed := true }
def BestLinesUptoSaid : Prop := bestLinesUptoRow.holds Try.pinned (OpenSpec.upto bestLinesSpec)

/-- 'styluslaw19.BestLeast', WHERE WHAT IT READS IS OF BULK AT MOST 1048576: true; the input reads as it did. -/
def bestLeastUptoRow : OpenClaim := { program := "ytbddfnmhhmkfkaa", sum := "186f629db7ba103bce97c12fcfa9ade8ac3c22fe42e52d37f0605b0f3d8ca7b5", func := "stylus/styluslaw19.BestLeast", spec := "bestLeast", unfollowed := true, recurses := true, apart := false, narrowed := true }
def BestLeastUptoSaid : Prop := bestLeastUptoRow.holds Try.pinned (OpenSpec.upto bestLeastSpec)

/-- 'styluslaw19.BestWider', WHERE WHAT IT READS IS OF BULK AT MOST 1048576: true; the input reads as it did. -/
def bestWiderUptoRow : OpenClaim := { program := "ytbddfnmhhmkfkaa", sum := "186f629db7ba103bce97c12fcfa9ade8ac3c22fe42e52d37f0605b0f3d8ca7b5", func := "stylus/styluslaw19.BestWider", spec := "bestWider", unfollowed := true, recurses := true, apart := false, narrowed := true }
def BestWiderUptoSaid : Prop := bestWiderUptoRow.holds Try.pinned (OpenSpec.upto bestWiderSpec)

/-- 'styluslaw20.LinesSet', WHERE WHAT IT READS IS OF BULK AT MOST 1048576: true; the input reads as it did. -/
def linesSetUptoRow : OpenClaim := { program := "ytbddfnmhhmkfkaa", sum := "186f629db7ba103bce97c12fcfa9ade8ac3c22fe42e52d37f0605b0f3d8ca7b5", func := "stylus/styluslaw20.LinesSet", spec := "linesSet", unfollowed := true, recurses := true, apart := false, narrowed := true }
def LinesSetUptoSaid : Prop := linesSetUptoRow.holds Try.pinned (OpenSpec.upto linesSetSpec)

/-- 'styluslaw20.LinesExact', WHERE WHAT IT READS IS OF BULK AT MOST 1048576: true; the input reads as it did. -/
def linesExactUptoRow : OpenClaim := { program := "ytbddfnmhhmkfkaa", sum := "186f629db7ba103bce97c12fcfa9ade8ac3c22fe42e52d37f0605b0f3d8ca7b5", func := "stylus/styluslaw20.LinesExact", spec := "linesExact", unfollowed := true, recurses := true, apart := false, narrowed := true }
def LinesExactUptoSaid : Prop := linesExactUptoRow.holds Try.pinned (OpenSpec.upto linesExactSpec)

/-- 'styluslaw20.LinesFilled', WHERE WHAT IT READS IS OF BULK AT MOST 1048576: true; the input reads as it did. -/
def linesFilledUptoRow : OpenClaim := { program := "ytbddfnmhhmkfkaa", sum := "186f629db7ba103bce97c12fcfa9ade8ac3c22fe42e52d37f0605b0f3d8ca7b5", func := "stylus/styluslaw20.LinesFilled", spec := "linesFilled", unfollowed := true, recurses := true, apart := false, narrowed := true }
def LinesFilledUptoSaid : Prop := linesFilledUptoRow.holds Try.pinned (OpenSpec.upto linesFilledSpec)

/-- 'styluslaw20.LinesFill', WHERE WHAT IT READS IS OF BULK AT MOST 1048576: true; the input reads as it did. -/
def linesFillUptoRow : OpenClaim := { program := "ytbddfnmhhmkfkaa", sum := "186f629db7ba103bce97c12fcfa9ade8ac3c22fe42e52d37f0605b0f3d8ca7b5", func := "stylus/styluslaw20.LinesFill", spec := "linesFill", inPlace := ["internal/abi.NoEscape"], unfollowed := true, recurses := true, apart := false, narrowed := true }
def LinesFillUptoSaid : Prop := linesFillUptoRow.holds Try.pinned (OpenSpec.upto linesFillSpec)

end Rows
end Go.Proofs.Ytbddfnmhhmkfkaa
