/-
  No cell of these rows narrows 'for every input' (looked for: loops, veiled, ifaces, maps, wideKeys, modest, calm, conditions, laid).
  DERIVED. THE GIVEN ROWS OF THIS SEAT. 19 by the template 'for every input the law returns true; each argument reads behind the call as it read before'; 0 by the template 'total and deterministic' (their statements: YthcmfjpheanphaaTotals.lean).
  GIVEN WITH THE SEED: the statements are not yours to turn. If you find one false, say at which input.
  Laid BY PROGRAM, IN A SANDBOX (cutbox-rows.mjs): the forced cells as the released guide's own fill.sh prints them over the translation b1a19816d27e665e… (all of the seat's roots in one cut). By AI agents, Wed Nov 11 2026. No macro, syntax, notation, axiom, sorry.
-/
import Derived.Test.YthcmfjpheanphaaChecked
import GoSem.Claim
import GoSem.ClaimJoined
import GoSem.ClaimMapViews
import Derived.JoinedTies
import Derived.KernelRfl
namespace Go.Proofs.Ythcmfjpheanphaa
/- THE CELL 'sum', in the pinned program and in every row, IS THE sha256 OF THE DUMP (.gsa) THAT YthcmfjpheanphaaProg.lean LOADS. Nothing in Lean hashes anything: it is a label: what it is worth is what the hold of that sum in a sandbox is worth. -/
noncomputable def Try.pinned : Pinned := { name := "ythcmfjpheanphaa", sum := "b1a19816d27e665e7cfc9cd29ee6c27f0295c653945af1505195f3f4acb0c9c2", checked := Try.checked }
namespace Rows
def none {H : Type} : Left H := { results := [], args := [] }

/-- 'styluslaw01.CharsParted': WHATEVER THE INPUT: true; the input reads as it did. -/
def charsPartedSpec : ChangeSpec := { name := "charsParted", fn := fun _ => fun
  | [d1, d2] => { results := [.lit (.bool true)], args := [d1, d2] }
  | _ => none }
def charsPartedRow : OpenClaim := { program := "ythcmfjpheanphaa", sum := "b1a19816d27e665e7cfc9cd29ee6c27f0295c653945af1505195f3f4acb0c9c2", func := "stylus/styluslaw01.CharsParted", spec := "charsParted", unfollowed := true, recurses := true, plainKeys := false, apart := false }
def CharsPartedSaid : Prop := charsPartedRow.holds Try.pinned (OpenSpec.ofChange charsPartedSpec)

/-- ITS FALSE NEIGHBOUR: 'it returns false'. Refute it at one input. -/
def charsPartedWrong : ChangeSpec := { name := "charsParted", fn := fun _ => fun
  | [d1, d2] => { results := [.lit (.bool false)], args := [d1, d2] }
  | _ => none }
def CharsPartedWrongFalsely : Prop := charsPartedRow.holds Try.pinned (OpenSpec.ofChange charsPartedWrong)

/-- 'styluslaw01.CharsTexts': WHATEVER THE INPUT: true; the input reads as it did. -/
def charsTextsSpec : ChangeSpec := { name := "charsTexts", fn := fun _ => fun
  | [d] => { results := [.lit (.bool true)], args := [d] }
  | _ => none }
def charsTextsRow : OpenClaim := { program := "ythcmfjpheanphaa", sum := "b1a19816d27e665e7cfc9cd29ee6c27f0295c653945af1505195f3f4acb0c9c2", func := "stylus/styluslaw01.CharsTexts", spec := "charsTexts", unfollowed := true, recurses := true, plainKeys := false, apart := false }
def CharsTextsSaid : Prop := charsTextsRow.holds Try.pinned (OpenSpec.ofChange charsTextsSpec)

/-- ITS FALSE NEIGHBOUR: 'it returns false'. Refute it at one input. -/
def charsTextsWrong : ChangeSpec := { name := "charsTexts", fn := fun _ => fun
  | [d] => { results := [.lit (.bool false)], args := [d] }
  | _ => none }
def CharsTextsWrongFalsely : Prop := charsTextsRow.holds Try.pinned (OpenSpec.ofChange charsTextsWrong)

/-- 'styluslaw01.CharsOf': WHATEVER THE INPUT: true; the input reads as it did. -/
def charsOfSpec : ChangeSpec := { name := "charsOf", fn := fun _ => fun
  | [d] => { results := [.lit (.bool true)], args := [d] }
  | _ => none }
def charsOfRow : OpenClaim := { program := "ythcmfjpheanphaa", sum := "b1a19816d27e665e7cfc9cd29ee6c27f0295c653945af1505195f3f4acb0c9c2", func := "stylus/styluslaw01.CharsOf", spec := "charsOf", unfollowed := true, recurses := true, plainKeys := false, apart := false }
def CharsOfSaid : Prop := charsOfRow.holds Try.pinned (OpenSpec.ofChange charsOfSpec)

/-- ITS FALSE NEIGHBOUR: 'it returns false'. Refute it at one input. -/
def charsOfWrong : ChangeSpec := { name := "charsOf", fn := fun _ => fun
  | [d] => { results := [.lit (.bool false)], args := [d] }
  | _ => none }
def CharsOfWrongFalsely : Prop := charsOfRow.holds Try.pinned (OpenSpec.ofChange charsOfWrong)

/-- 'styluslaw01.CharsCased': WHATEVER THE INPUT: true; the input reads as it did. -/
def charsCasedSpec : ChangeSpec := { name := "charsCased", fn := fun _ => fun
  | [d] => { results := [.lit (.bool true)], args := [d] }
  | _ => none }
def charsCasedRow : OpenClaim := { program := "ythcmfjpheanphaa", sum := "b1a19816d27e665e7cfc9cd29ee6c27f0295c653945af1505195f3f4acb0c9c2", func := "stylus/styluslaw01.CharsCased", spec := "charsCased", unfollowed := true, recurses := true, plainKeys := false, apart := false }
def CharsCasedSaid : Prop := charsCasedRow.holds Try.pinned (OpenSpec.ofChange charsCasedSpec)

/-- ITS FALSE NEIGHBOUR: 'it returns false'. Refute it at one input. -/
def charsCasedWrong : ChangeSpec := { name := "charsCased", fn := fun _ => fun
  | [d] => { results := [.lit (.bool false)], args := [d] }
  | _ => none }
def CharsCasedWrongFalsely : Prop := charsCasedRow.holds Try.pinned (OpenSpec.ofChange charsCasedWrong)

/-- 'styluslaw03.LexReads': WHATEVER THE INPUT: true; the input reads as it did. -/
def lexReadsSpec : ChangeSpec := { name := "lexReads", fn := fun _ => fun
  | [d] => { results := [.lit (.bool true)], args := [d] }
  | _ => none }
def lexReadsRow : OpenClaim := { program := "ythcmfjpheanphaa", sum := "b1a19816d27e665e7cfc9cd29ee6c27f0295c653945af1505195f3f4acb0c9c2", func := "stylus/styluslaw03.LexReads", spec := "lexReads", unfollowed := true, recurses := true, plainKeys := false, apart := false }
def LexReadsSaid : Prop := lexReadsRow.holds Try.pinned (OpenSpec.ofChange lexReadsSpec)

/-- ITS FALSE NEIGHBOUR: 'it returns false'. Refute it at one input. -/
def lexReadsWrong : ChangeSpec := { name := "lexReads", fn := fun _ => fun
  | [d] => { results := [.lit (.bool false)], args := [d] }
  | _ => none }
def LexReadsWrongFalsely : Prop := lexReadsRow.holds Try.pinned (OpenSpec.ofChange lexReadsWrong)

/-- 'styluslaw03.LexParted': WHATEVER THE INPUT: true; the input reads as it did. -/
def lexPartedSpec : ChangeSpec := { name := "lexParted", fn := fun _ => fun
  | [d1, d2] => { results := [.lit (.bool true)], args := [d1, d2] }
  | _ => none }
def lexPartedRow : OpenClaim := { program := "ythcmfjpheanphaa", sum := "b1a19816d27e665e7cfc9cd29ee6c27f0295c653945af1505195f3f4acb0c9c2", func := "stylus/styluslaw03.LexParted", spec := "lexParted", unfollowed := true, recurses := true, plainKeys := false, apart := false }
def LexPartedSaid : Prop := lexPartedRow.holds Try.pinned (OpenSpec.ofChange lexPartedSpec)

/-- ITS FALSE NEIGHBOUR: 'it returns false'. Refute it at one input. -/
def lexPartedWrong : ChangeSpec := { name := "lexParted", fn := fun _ => fun
  | [d1, d2] => { results := [.lit (.bool false)], args := [d1, d2] }
  | _ => none }
def LexPartedWrongFalsely : Prop := lexPartedRow.holds Try.pinned (OpenSpec.ofChange lexPartedWrong)

/-- 'styluslaw03.LexWhole': WHATEVER THE INPUT: true; the input reads as it did. -/
def lexWholeSpec : ChangeSpec := { name := "lexWhole", fn := fun _ => fun
  | [d] => { results := [.lit (.bool true)], args := [d] }
  | _ => none }
def lexWholeRow : OpenClaim := { program := "ythcmfjpheanphaa", sum := "b1a19816d27e665e7cfc9cd29ee6c27f0295c653945af1505195f3f4acb0c9c2", func := "stylus/styluslaw03.LexWhole", spec := "lexWhole", unfollowed := true, recurses := true, plainKeys := false, apart := false }
def LexWholeSaid : Prop := lexWholeRow.holds Try.pinned (OpenSpec.ofChange lexWholeSpec)

/-- ITS FALSE NEIGHBOUR: 'it returns false'. Refute it at one input. -/
def lexWholeWrong : ChangeSpec := { name := "lexWhole", fn := fun _ => fun
  | [d] => { results := [.lit (.bool false)], args := [d] }
  | _ => none }
def LexWholeWrongFalsely : Prop := lexWholeRow.holds Try.pinned (OpenSpec.ofChange lexWholeWrong)

/-- 'styluslaw03.LexNames': WHATEVER THE INPUT: true; the input reads as it did. -/
def lexNamesSpec : ChangeSpec := { name := "lexNames", fn := fun _ => fun
  | [d] => { results := [.lit (.bool true)], args := [d] }
  | _ => none }
def lexNamesRow : OpenClaim := { program := "ythcmfjpheanphaa", sum := "b1a19816d27e665e7cfc9cd29ee6c27f0295c653945af1505195f3f4acb0c9c2", func := "stylus/styluslaw03.LexNames", spec := "lexNames", unfollowed := true, recurses := true, plainKeys := false, apart := false }
def LexNamesSaid : Prop := lexNamesRow.holds Try.pinned (OpenSpec.ofChange lexNamesSpec)

/-- ITS FALSE NEIGHBOUR: 'it returns false'. Refute it at one input. -/
def lexNamesWrong : ChangeSpec := { name := "lexNames", fn := fun _ => fun
  | [d] => { results := [.lit (.bool false)], args := [d] }
  | _ => none }
def LexNamesWrongFalsely : Prop := lexNamesRow.holds Try.pinned (OpenSpec.ofChange lexNamesWrong)

/-- 'styluslaw04.TreeParses': WHATEVER THE INPUT: true; the input reads as it did. -/
def treeParsesSpec : ChangeSpec := { name := "treeParses", fn := fun _ => fun
  | [d] => { results := [.lit (.bool true)], args := [d] }
  | _ => none }
def treeParsesRow : OpenClaim := { program := "ythcmfjpheanphaa", sum := "b1a19816d27e665e7cfc9cd29ee6c27f0295c653945af1505195f3f4acb0c9c2", func := "stylus/styluslaw04.TreeParses", spec := "treeParses", inPlace := ["internal/bytealg.IndexByteString"], unfollowed := true, recurses := true, plainKeys := false, apart := false }
def TreeParsesSaid : Prop := treeParsesRow.holds Try.pinned (OpenSpec.ofChange treeParsesSpec)

/-- ITS FALSE NEIGHBOUR: 'it returns false'. Refute it at one input. -/
def treeParsesWrong : ChangeSpec := { name := "treeParses", fn := fun _ => fun
  | [d] => { results := [.lit (.bool false)], args := [d] }
  | _ => none }
def TreeParsesWrongFalsely : Prop := treeParsesRow.holds Try.pinned (OpenSpec.ofChange treeParsesWrong)

/-- 'styluslaw04.TreeBlocks': WHATEVER THE INPUT: true; the input reads as it did. -/
def treeBlocksSpec : ChangeSpec := { name := "treeBlocks", fn := fun _ => fun
  | [d1, d2] => { results := [.lit (.bool true)], args := [d1, d2] }
  | _ => none }
def treeBlocksRow : OpenClaim := { program := "ythcmfjpheanphaa", sum := "b1a19816d27e665e7cfc9cd29ee6c27f0295c653945af1505195f3f4acb0c9c2", func := "stylus/styluslaw04.TreeBlocks", spec := "treeBlocks", inPlace := ["internal/bytealg.IndexByteString"], unfollowed := true, recurses := true, plainKeys := false, apart := false }
def TreeBlocksSaid : Prop := treeBlocksRow.holds Try.pinned (OpenSpec.ofChange treeBlocksSpec)

/-- ITS FALSE NEIGHBOUR: 'it returns false'. Refute it at one input. -/
def treeBlocksWrong : ChangeSpec := { name := "treeBlocks", fn := fun _ => fun
  | [d1, d2] => { results := [.lit (.bool false)], args := [d1, d2] }
  | _ => none }
def TreeBlocksWrongFalsely : Prop := treeBlocksRow.holds Try.pinned (OpenSpec.ofChange treeBlocksWrong)

/-- 'styluslaw04.TreeMay': WHATEVER THE INPUT: true; the input reads as it did. -/
def treeMaySpec : ChangeSpec := { name := "treeMay", fn := fun _ => fun
  | [d] => { results := [.lit (.bool true)], args := [d] }
  | _ => none }
def treeMayRow : OpenClaim := { program := "ythcmfjpheanphaa", sum := "b1a19816d27e665e7cfc9cd29ee6c27f0295c653945af1505195f3f4acb0c9c2", func := "stylus/styluslaw04.TreeMay", spec := "treeMay", inPlace := ["internal/bytealg.IndexByteString"], unfollowed := true, recurses := true, plainKeys := false, apart := false }
def TreeMaySaid : Prop := treeMayRow.holds Try.pinned (OpenSpec.ofChange treeMaySpec)

/-- ITS FALSE NEIGHBOUR: 'it returns false'. Refute it at one input. -/
def treeMayWrong : ChangeSpec := { name := "treeMay", fn := fun _ => fun
  | [d] => { results := [.lit (.bool false)], args := [d] }
  | _ => none }
def TreeMayWrongFalsely : Prop := treeMayRow.holds Try.pinned (OpenSpec.ofChange treeMayWrong)

/-- 'styluslaw04.TreeChecks': WHATEVER THE INPUT: true; the input reads as it did. -/
def treeChecksSpec : ChangeSpec := { name := "treeChecks", fn := fun _ => fun
  | [d1, d2] => { results := [.lit (.bool true)], args := [d1, d2] }
  | _ => none }
def treeChecksRow : OpenClaim := { program := "ythcmfjpheanphaa", sum := "b1a19816d27e665e7cfc9cd29ee6c27f0295c653945af1505195f3f4acb0c9c2", func := "stylus/styluslaw04.TreeChecks", spec := "treeChecks", inPlace := ["internal/bytealg.IndexByteString"], unfollowed := true, recurses := true, plainKeys := false, apart := false }
def TreeChecksSaid : Prop := treeChecksRow.holds Try.pinned (OpenSpec.ofChange treeChecksSpec)

/-- ITS FALSE NEIGHBOUR: 'it returns false'. Refute it at one input. -/
def treeChecksWrong : ChangeSpec := { name := "treeChecks", fn := fun _ => fun
  | [d1, d2] => { results := [.lit (.bool false)], args := [d1, d2] }
  | _ => none }
def TreeChecksWrongFalsely : Prop := treeChecksRow.holds Try.pinned (OpenSpec.ofChange treeChecksWrong)

/-- 'styluslaw04.TreeParts': WHATEVER THE INPUT: true; the input reads as it did. -/
def treePartsSpec : ChangeSpec := { name := "treeParts", fn := fun _ => fun
  | [d1, d2] => { results := [.lit (.bool true)], args := [d1, d2] }
  | _ => none }
def treePartsRow : OpenClaim := { program := "ythcmfjpheanphaa", sum := "b1a19816d27e665e7cfc9cd29ee6c27f0295c653945af1505195f3f4acb0c9c2", func := "stylus/styluslaw04.TreeParts", spec := "treeParts", inPlace := ["internal/bytealg.IndexByteString"], unfollowed := true, recurses := true, plainKeys := false, apart := false }
def TreePartsSaid : Prop := treePartsRow.holds Try.pinned (OpenSpec.ofChange treePartsSpec)

/-- ITS FALSE NEIGHBOUR: 'it returns false'. Refute it at one input. -/
def treePartsWrong : ChangeSpec := { name := "treeParts", fn := fun _ => fun
  | [d1, d2] => { results := [.lit (.bool false)], args := [d1, d2] }
  | _ => none }
def TreePartsWrongFalsely : Prop := treePartsRow.holds Try.pinned (OpenSpec.ofChange treePartsWrong)

/-- 'styluslaw05.NormForms': WHATEVER THE INPUT: true; the input reads as it did. -/
def normFormsSpec : ChangeSpec := { name := "normForms", fn := fun _ => fun
  | [d] => { results := [.lit (.bool true)], args := [d] }
  | _ => none }
def normFormsRow : OpenClaim := { program := "ythcmfjpheanphaa", sum := "b1a19816d27e665e7cfc9cd29ee6c27f0295c653945af1505195f3f4acb0c9c2", func := "stylus/styluslaw05.NormForms", spec := "normForms", inPlace := ["internal/bytealg.IndexByteString"], unfollowed := true, recurses := true, plainKeys := false, apart := false }
def NormFormsSaid : Prop := normFormsRow.holds Try.pinned (OpenSpec.ofChange normFormsSpec)

/-- ITS FALSE NEIGHBOUR: 'it returns false'. Refute it at one input. -/
def normFormsWrong : ChangeSpec := { name := "normForms", fn := fun _ => fun
  | [d] => { results := [.lit (.bool false)], args := [d] }
  | _ => none }
def NormFormsWrongFalsely : Prop := normFormsRow.holds Try.pinned (OpenSpec.ofChange normFormsWrong)

/-- 'styluslaw05.NormWhite': WHATEVER THE INPUT: true; the input reads as it did. -/
def normWhiteSpec : ChangeSpec := { name := "normWhite", fn := fun _ => fun
  | [d1, d2] => { results := [.lit (.bool true)], args := [d1, d2] }
  | _ => none }
def normWhiteRow : OpenClaim := { program := "ythcmfjpheanphaa", sum := "b1a19816d27e665e7cfc9cd29ee6c27f0295c653945af1505195f3f4acb0c9c2", func := "stylus/styluslaw05.NormWhite", spec := "normWhite", inPlace := ["internal/bytealg.IndexByteString"], unfollowed := true, recurses := true, plainKeys := false, apart := false }
def NormWhiteSaid : Prop := normWhiteRow.holds Try.pinned (OpenSpec.ofChange normWhiteSpec)

/-- ITS FALSE NEIGHBOUR: 'it returns false'. Refute it at one input. -/
def normWhiteWrong : ChangeSpec := { name := "normWhite", fn := fun _ => fun
  | [d1, d2] => { results := [.lit (.bool false)], args := [d1, d2] }
  | _ => none }
def NormWhiteWrongFalsely : Prop := normWhiteRow.holds Try.pinned (OpenSpec.ofChange normWhiteWrong)

/-- 'styluslaw07.FlatBack': WHATEVER THE INPUT: true; the input reads as it did. -/
def flatBackSpec : ChangeSpec := { name := "flatBack", fn := fun _ => fun
  | [d1, d2] => { results := [.lit (.bool true)], args := [d1, d2] }
  | _ => none }
def flatBackRow : OpenClaim := { program := "ythcmfjpheanphaa", sum := "b1a19816d27e665e7cfc9cd29ee6c27f0295c653945af1505195f3f4acb0c9c2", func := "stylus/styluslaw07.FlatBack", spec := "flatBack", inPlace := ["internal/bytealg.IndexByteString"], unfollowed := true, recurses := true, plainKeys := false, apart := false }
def FlatBackSaid : Prop := flatBackRow.holds Try.pinned (OpenSpec.ofChange flatBackSpec)

/-- ITS FALSE NEIGHBOUR: 'it returns false'. Refute it at one input. -/
def flatBackWrong : ChangeSpec := { name := "flatBack", fn := fun _ => fun
  | [d1, d2] => { results := [.lit (.bool false)], args := [d1, d2] }
  | _ => none }
def FlatBackWrongFalsely : Prop := flatBackRow.holds Try.pinned (OpenSpec.ofChange flatBackWrong)

/-- 'styluslaw07.FlatPaired': WHATEVER THE INPUT: true; the input reads as it did. -/
def flatPairedSpec : ChangeSpec := { name := "flatPaired", fn := fun _ => fun
  | [d] => { results := [.lit (.bool true)], args := [d] }
  | _ => none }
def flatPairedRow : OpenClaim := { program := "ythcmfjpheanphaa", sum := "b1a19816d27e665e7cfc9cd29ee6c27f0295c653945af1505195f3f4acb0c9c2", func := "stylus/styluslaw07.FlatPaired", spec := "flatPaired", inPlace := ["internal/bytealg.IndexByteString"], unfollowed := true, recurses := true, plainKeys := false, apart := false }
def FlatPairedSaid : Prop := flatPairedRow.holds Try.pinned (OpenSpec.ofChange flatPairedSpec)

/-- ITS FALSE NEIGHBOUR: 'it returns false'. Refute it at one input. -/
def flatPairedWrong : ChangeSpec := { name := "flatPaired", fn := fun _ => fun
  | [d] => { results := [.lit (.bool false)], args := [d] }
  | _ => none }
def FlatPairedWrongFalsely : Prop := flatPairedRow.holds Try.pinned (OpenSpec.ofChange flatPairedWrong)

/-- 'styluslaw06.CanonBack': WHATEVER THE INPUT: true; the input reads as it did. -/
def canonBackSpec : ChangeSpec := { name := "canonBack", fn := fun _ => fun
  | [d1, d2] => { results := [.lit (.bool true)], args := [d1, d2] }
  | _ => none }
def canonBackRow : OpenClaim := { program := "ythcmfjpheanphaa", sum := "b1a19816d27e665e7cfc9cd29ee6c27f0295c653945af1505195f3f4acb0c9c2", func := "stylus/styluslaw06.CanonBack", spec := "canonBack", inPlace := ["internal/bytealg.IndexByteString", "internal/abi.NoEscape"], unfollowed := true, recurses := true, plainKeys := false, apart := false }
def CanonBackSaid : Prop := canonBackRow.holds Try.pinned (OpenSpec.ofChange canonBackSpec)

/-- ITS FALSE NEIGHBOUR: 'it returns false'. Refute it at one input. -/
def canonBackWrong : ChangeSpec := { name := "canonBack", fn := fun _ => fun
  | [d1, d2] => { results := [.lit (.bool false)], args := [d1, d2] }
  | _ => none }
def CanonBackWrongFalsely : Prop := canonBackRow.holds Try.pinned (OpenSpec.ofChange canonBackWrong)

/-- 'styluslaw06.CanonOnce': WHATEVER THE INPUT: true; the input reads as it did. -/
def canonOnceSpec : ChangeSpec := { name := "canonOnce", fn := fun _ => fun
  | [d] => { results := [.lit (.bool true)], args := [d] }
  | _ => none }
def canonOnceRow : OpenClaim := { program := "ythcmfjpheanphaa", sum := "b1a19816d27e665e7cfc9cd29ee6c27f0295c653945af1505195f3f4acb0c9c2", func := "stylus/styluslaw06.CanonOnce", spec := "canonOnce", inPlace := ["internal/bytealg.IndexByteString", "internal/abi.NoEscape"], unfollowed := true, recurses := true, plainKeys := false, apart := false }
def CanonOnceSaid : Prop := canonOnceRow.holds Try.pinned (OpenSpec.ofChange canonOnceSpec)

/-- ITS FALSE NEIGHBOUR: 'it returns false'. Refute it at one input. -/
def canonOnceWrong : ChangeSpec := { name := "canonOnce", fn := fun _ => fun
  | [d] => { results := [.lit (.bool false)], args := [d] }
  | _ => none }
def CanonOnceWrongFalsely : Prop := canonOnceRow.holds Try.pinned (OpenSpec.ofChange canonOnceWrong)

/- THE SECOND FORM. 'bulk': how many values and letters a reading holds, each counted each time it is reached (what is shared counts as often as it is met; a slice's spare places count too). A statement '..UptoSaid' is the law's where the arguments, and the package variables that the reading takes, are together of bulk at most 1048576: NARROWER than '..Said'. Prove '..Said' where nothing that the law and all that it calls make is longer than what came in: it says more and counts as full. Else prove '..UptoSaid'. A law counts once. -/
mutual
def uptoBulk {H : Type} : DataW H → Nat
  | .lit (.string bytes) => bytes.length + 1
  | .lit _ => 1
  | .nil => 1
  | .ptr d => uptoBulk d + 1
  | .slice elems spare => uptoBulkAll elems + uptoBulkAll spare + 1
  | .agg parts => uptoBulkAll parts + 1
  | .iface _ d => uptoBulk d + 1
  | .map entries => uptoBulkEntries entries + 1
  | .held _ => 1
def uptoBulkAll {H : Type} : List (DataW H) → Nat
  | [] => 0
  | d :: r => uptoBulk d + uptoBulkAll r
def uptoBulkEntries {H : Type} : List (Lit × DataW H) → Nat
  | [] => 0
  | x :: r => uptoBulkEntry x + uptoBulkEntries r
def uptoBulkEntry {H : Type} : Lit × DataW H → Nat
  | (.string bytes, d) => bytes.length + uptoBulk d + 1
  | (_, d) => uptoBulk d + 1
 end
def uptoSmall : (H : Type) → List (DataW H) → Bool := fun _ ds => decide (uptoBulkAll ds ≤ 1048576)
def OpenSpec.upto (s : _root_.Go.ChangeSpec) : _root_.Go.OpenSpec := { _root_.Go.OpenSpec.ofChange s with cond := some uptoSmall }

/-- 'styluslaw01.CharsParted', WHERE WHAT IT READS IS OF BULK AT MOST 1048576: true; the input reads as it did. -/
def charsPartedUptoRow : OpenClaim := { program := "ythcmfjpheanphaa", sum := "b1a19816d27e665e7cfc9cd29ee6c27f0295c653945af1505195f3f4acb0c9c2", func := "stylus/styluslaw01.CharsParted", spec := "charsParted", unfollowed := true, recurses := true, plainKeys := false, apart := false, narrowed := true }
def CharsPartedUptoSaid : Prop := charsPartedUptoRow.holds Try.pinned (OpenSpec.upto charsPartedSpec)

/-- 'styluslaw01.CharsTexts', WHERE WHAT IT READS IS OF BULK AT MOST 1048576: true; the input reads as it did. -/
def charsTextsUptoRow : OpenClaim := { program := "ythcmfjpheanphaa", sum := "b1a19816d27e665e7cfc9cd29ee6c27f0295c653945af1505195f3f4acb0c9c2", func := "stylus/styluslaw01.CharsTexts", spec := "charsTexts", unfollowed := true, recurses := true, plainKeys := false, apart := false, narrowed := true }
def CharsTextsUptoSaid : Prop := charsTextsUptoRow.holds Try.pinned (OpenSpec.upto charsTextsSpec)

/-- 'styluslaw01.CharsOf', WHERE WHAT IT READS IS OF BULK AT MOST 1048576: true; the input reads as it did. -/
def charsOfUptoRow : OpenClaim := { program := "ythcmfjpheanphaa", sum := "b1a19816d27e665e7cfc9cd29ee6c27f0295c653945af1505195f3f4acb0c9c2", func := "stylus/styluslaw01.CharsOf", spec := "charsOf", unfollowed := true, recurses := true, plainKeys := false, apart := false, narrowed := true }
def CharsOfUptoSaid : Prop := charsOfUptoRow.holds Try.pinned (OpenSpec.upto charsOfSpec)

/-- 'styluslaw01.CharsCased', WHERE WHAT IT READS IS OF BULK AT MOST 1048576: true; the input reads as it did. -/
def charsCasedUptoRow : OpenClaim := { program := "ythcmfjpheanphaa", sum := "b1a19816d27e665e7cfc9cd29ee6c27f0295c653945af1505195f3f4acb0c9c2", func := "stylus/styluslaw01.CharsCased", spec := "charsCased", unfollowed := true, recurses := true, plainKeys := false, apart := false, narrowed := true }
def CharsCasedUptoSaid : Prop := charsCasedUptoRow.holds Try.pinned (OpenSpec.upto charsCasedSpec)

/-- 'styluslaw03.LexReads', WHERE WHAT IT READS IS OF BULK AT MOST 1048576: true; the input reads as it did. -/
def lexReadsUptoRow : OpenClaim := { program := "ythcmfjpheanphaa", sum := "b1a19816d27e665e7cfc9cd29ee6c27f0295c653945af1505195f3f4acb0c9c2", func := "stylus/styluslaw03.LexReads", spec := "lexReads", unfollowed := true, recurses := true, plainKeys := false, apart := false, narrowed := true }
def LexReadsUptoSaid : Prop := lexReadsUptoRow.holds Try.pinned (OpenSpec.upto lexReadsSpec)

/-- 'styluslaw03.LexParted', WHERE WHAT IT READS IS OF BULK AT MOST 1048576: true; the input reads as it did. -/
def lexPartedUptoRow : OpenClaim := { program := "ythcmfjpheanphaa", sum := "b1a19816d27e665e7cfc9cd29ee6c27f0295c653945af1505195f3f4acb0c9c2", func := "stylus/styluslaw03.LexParted", spec := "lexParted", unfollowed := true, recurses := true, plainKeys := false, apart := false, narrowed := true }
def LexPartedUptoSaid : Prop := lexPartedUptoRow.holds Try.pinned (OpenSpec.upto lexPartedSpec)

/-- 'styluslaw03.LexWhole', WHERE WHAT IT READS IS OF BULK AT MOST 1048576: true; the input reads as it did. -/
def lexWholeUptoRow : OpenClaim := { program := "ythcmfjpheanphaa", sum := "b1a19816d27e665e7cfc9cd29ee6c27f0295c653945af1505195f3f4acb0c9c2", func := "stylus/styluslaw03.LexWhole", spec := "lexWhole", unfollowed := true, recurses := true, plainKeys := false, apart := false, narrowed := true }
def LexWholeUptoSaid : Prop := lexWholeUptoRow.holds Try.pinned (OpenSpec.upto lexWholeSpec)

/-- 'styluslaw03.LexNames', WHERE WHAT IT READS IS OF BULK AT MOST 1048576: true; the input reads as it did. -/
def lexNamesUptoRow : OpenClaim := { program := "ythcmfjpheanphaa", sum := "b1a19816d27e665e7cfc9cd29ee6c27f0295c653945af1505195f3f4acb0c9c2", func := "stylus/styluslaw03.LexNames", spec := "lexNames", unfollowed := true, recurses := true, plainKeys := false, apart := false, narrowed := true }
def LexNamesUptoSaid : Prop := lexNamesUptoRow.holds Try.pinned (OpenSpec.upto lexNamesSpec)

/-- 'styluslaw04.TreeParses', WHERE WHAT IT READS IS OF BULK AT MOST 1048576: true; the input reads as it did. -/
def treeParsesUptoRow : OpenClaim := { program := "ythcmfjpheanphaa", sum := "b1a19816d27e665e7cfc9cd29ee6c27f0295c653945af1505195f3f4acb0c9c2", func := "stylus/styluslaw04.TreeParses", spec := "treeParses", inPlace := ["internal/bytealg.IndexByteString"], unfollowed := true, recurses := true, plainKeys := false, apart := false, narrowed := true }
def TreeParsesUptoSaid : Prop := treeParsesUptoRow.holds Try.pinned (OpenSpec.upto treeParsesSpec)

/-- 'styluslaw04.TreeBlocks', WHERE WHAT IT READS IS OF BULK AT MOST 1048576: true; the input reads as it did. -/
def treeBlocksUptoRow : OpenClaim := { program := "ythcmfjpheanphaa", sum := "b1a19816d27e665e7cfc9cd29ee6c27f0295c653945af1505195f3f4acb0c9c2", func := "stylus/styluslaw04.TreeBlocks", spec := "treeBlocks", inPlace := ["internal/bytealg.IndexByteString"], unfollowed := true, recurses := true, plainKeys := false, apart := false, narrowed := true }
def TreeBlocksUptoSaid : Prop := treeBlocksUptoRow.holds Try.pinned (OpenSpec.upto treeBlocksSpec)

/-- 'styluslaw04.TreeMay', WHERE WHAT IT READS IS OF BULK AT MOST 1048576: true; the input reads as it did. -/
def treeMayUptoRow : OpenClaim := { program := "ythcmfjpheanphaa", sum := "b1a19816d27e665e7cfc9cd29ee6c27f0295c653945af1505195f3f4acb0c9c2", func := "stylus/styluslaw04.TreeMay", spec := "treeMay", inPlace := ["internal/bytealg.IndexByteString"], unfollowed := true, recurses := true, plainKeys := false, apart := false, narrowed := true }
def TreeMayUptoSaid : Prop := treeMayUptoRow.holds Try.pinned (OpenSpec.upto treeMaySpec)

/-- 'styluslaw04.TreeChecks', WHERE WHAT IT READS IS OF BULK AT MOST 1048576: true; the input reads as it did. -/
def treeChecksUptoRow : OpenClaim := { program := "ythcmfjpheanphaa", sum := "b1a19816d27e665e7cfc9cd29ee6c27f0295c653945af1505195f3f4acb0c9c2", func := "stylus/styluslaw04.TreeChecks", spec := "treeChecks", inPlace := ["internal/bytealg.IndexByteString"], unfollowed := true, recurses := true, plainKeys := false, apart := false, narrowed := true }
def TreeChecksUptoSaid : Prop := treeChecksUptoRow.holds Try.pinned (OpenSpec.upto treeChecksSpec)

/-- 'styluslaw04.TreeParts', WHERE WHAT IT READS IS OF BULK AT MOST 1048576: true; the input reads as it did. -/
def treePartsUptoRow : OpenClaim := { program := "ythcmfjpheanphaa", sum := "b1a19816d27e665e7cfc9cd29ee6c27f0295c653945af1505195f3f4acb0c9c2", func := "stylus/styluslaw04.TreeParts", spec := "treeParts", inPlace := ["internal/bytealg.IndexByteString"], unfollowed := true, recurses := true, plainKeys := false, apart := false, narrowed := true }
def TreePartsUptoSaid : Prop := treePartsUptoRow.holds Try.pinned (OpenSpec.upto treePartsSpec)

/-- 'styluslaw05.NormForms', WHERE WHAT IT READS IS OF BULK AT MOST 1048576: true; the input reads as it did. -/
def normFormsUptoRow : OpenClaim := { program := "ythcmfjpheanphaa", sum := "b1a19816d27e665e7cfc9cd29ee6c27f0295c653945af1505195f3f4acb0c9c2", func := "stylus/styluslaw05.NormForms", spec := "normForms", inPlace := ["internal/bytealg.IndexByteString"], unfollowed := true, recurses := true, plainKeys := false, apart := false, narrowed := true }
def NormFormsUptoSaid : Prop := normFormsUptoRow.holds Try.pinned (OpenSpec.upto normFormsSpec)

/-- 'styluslaw05.NormWhite', WHERE WHAT IT READS IS OF BULK AT MOST 1048576: true; the input reads as it did. -/
def normWhiteUptoRow : OpenClaim := { program := "ythcmfjpheanphaa", sum := "b1a19816d27e665e7cfc9cd29ee6c27f0295c653945af1505195f3f4acb0c9c2", func := "stylus/styluslaw05.NormWhite", spec := "normWhite", inPlace := ["internal/bytealg.IndexByteString"], unfollowed := true, recurses := true, plainKeys := false, apart := false, narrowed := true }
def NormWhiteUptoSaid : Prop := normWhiteUptoRow.holds Try.pinned (OpenSpec.upto normWhiteSpec)

/-- 'styluslaw07.FlatBack', WHERE WHAT IT READS IS OF BULK AT MOST 1048576: true; the input reads as it did. -/
def flatBackUptoRow : OpenClaim := { program := "ythcmfjpheanphaa", sum := "b1a19816d27e665e7cfc9cd29ee6c27f0295c653945af1505195f3f4acb0c9c2", func := "stylus/styluslaw07.FlatBack", spec := "flatBack", inPlace := ["internal/bytealg.IndexByteString"], unfollowed := true, recurses := true, plainKeys := false, apart := false, narrowed := true }
def FlatBackUptoSaid : Prop := flatBackUptoRow.holds Try.pinned (OpenSpec.upto flatBackSpec)

/-- 'styluslaw07.FlatPaired', WHERE WHAT IT READS IS OF BULK AT MOST 1048576: true; the input reads as it did. -/
def flatPairedUptoRow : OpenClaim := { program := "ythcmfjpheanphaa", sum := "b1a19816d27e665e7cfc9cd29ee6c27f0295c653945af1505195f3f4acb0c9c2", func := "stylus/styluslaw07.FlatPaired", spec := "flatPaired", inPlace := ["internal/bytealg.IndexByteString"], unfollowed := true, recurses := true, plainKeys := false, apart := false, narrowed := true }
def FlatPairedUptoSaid : Prop := flatPairedUptoRow.holds Try.pinned (OpenSpec.upto flatPairedSpec)

/-- 'styluslaw06.CanonBack', WHERE WHAT IT READS IS OF BULK AT MOST 1048576: true; the input reads as it did. -/
def canonBackUptoRow : OpenClaim := { program := "ythcmfjpheanphaa", sum := "b1a19816d27e665e7cfc9cd29ee6c27f0295c653945af1505195f3f4acb0c9c2", func := "stylus/styluslaw06.CanonBack", spec := "canonBack", inPlace := ["internal/bytealg.IndexByteString", "internal/abi.NoEscape"], unfollowed := true, recurses := true, plainKeys := false, apart := false, narrowed := true }
def CanonBackUptoSaid : Prop := canonBackUptoRow.holds Try.pinned (OpenSpec.upto canonBackSpec)

/-- 'styluslaw06.CanonOnce', WHERE WHAT IT READS IS OF BULK AT MOST 1048576: true; the input reads as it did. -/
def canonOnceUptoRow : OpenClaim := { program := "ythcmfjpheanphaa", sum := "b1a19816d27e665e7cfc9cd29ee6c27f0295c653945af1505195f3f4acb0c9c2", func := "stylus/styluslaw06.CanonOnce", spec := "canonOnce", inPlace := ["internal/bytealg.IndexByteString", "internal/abi.NoEscape"], unfollowed := true, recurses := true, plainKeys := false, apart := false, narrowed := true }
def CanonOnceUptoSaid : Prop := canonOnceUptoRow.holds Try.pinned (OpenSpec.upto canonOnceSpec)

end Rows
end Go.Proofs.Ythcmfjpheanphaa
