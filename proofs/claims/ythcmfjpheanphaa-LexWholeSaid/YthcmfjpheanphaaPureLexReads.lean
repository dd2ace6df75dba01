/- The pure law of LexReads: of each source of 9000 bytes at most what is read, or where it is spoilt and by which error, is the document's. No condition but that a text fits in memory. -/
import Derived.Test.YthcmfjpheanphaaPm1
import Derived.Test.YthcmfjpheanphaaPureLex
namespace Go.Proofs.Ythcmfjpheanphaa.Pure
open Go.RowKit Go.Proofs.Ythcmfjpheanphaa.Pr Go.Proofs.YthcmfjpheanphaaW.PrintWords Go.Proofs.YthcmfjpheanphaaW.PrintLast

set_option maxRecDepth 100000 in
theorem awake03 : styluslaw03_awake.f 20 = some true := by decide +kernel
theorem awake03_at (k : Nat) (hk : 20 ≤ k) : styluslaw03_awake.f k = some true := at_rounds (fun k => styluslaw03_awake.mono k) hk awake03

theorem LexReads : styluslaw03_LexReads.Pure := by
  intro s h
  refine ⟨2 * s.size + 60, ?_⟩
  have haw := awake03_at (2 * s.size + 60) (by omega)
  have hof := refOf_f s (2 * s.size + 60) (Nat.le_refl _)
  have hlen := lexP_length s
  unfold styluslaw03_LexReads.f
  by_cases h2 : s.size ≤ 9000
  · have hsame := same47_f (lexP s).1 (by omega) (2 * s.size + 60) (by omega)
    rw [if_neg (by omega), show lex_Of.f s = some (lexP s) from rfl, hof]
    refine (Option.bind_some _ _).trans ?_
    refine (Option.bind_some _ _).trans ?_
    rw [hsame]
    refine (Option.bind_some _ _).trans ?_
    rw [if_pos rfl, if_pos rfl, if_pos rfl, haw]
    rfl
  · rw [if_pos (by omega), haw]
    rfl
end Go.Proofs.Ythcmfjpheanphaa.Pure
