/- Texts of this seat, one behind the other. -/
import Derived.Test.YthcmfjpheanphaaRows
import Derived.WalkKit
import Derived.ProofKit
import Derived.OpenShut
import Derived.ShutString
import Derived.ChangeOld
import Derived.Below
import Derived.SizedLaws
import Derived.Carry
import Derived.ChangeSlices
import Derived.Test.YthcmfjpheanphaaXNormWhite1
import Derived.Test.YthcmfjpheanphaaXNormWhite2
import Derived.Test.YthcmfjpheanphaaXNormWhite3
import Derived.Test.YthcmfjpheanphaaXNormWhite4
import Derived.Test.YthcmfjpheanphaaXNormWhite5
import Derived.Test.YthcmfjpheanphaaXNormWhite6
import Derived.Test.YthcmfjpheanphaaXNormWhite7
import Derived.Test.YthcmfjpheanphaaXNormWhite8
import Derived.Test.YthcmfjpheanphaaXNormWhite9
import Derived.Test.YthcmfjpheanphaaXNormWhite10
import Derived.Test.YthcmfjpheanphaaXNormWhite11
import Derived.Test.YthcmfjpheanphaaXNormWhite12
import Derived.Test.YthcmfjpheanphaaXNormWhite13
set_option linter.unusedVariables false
set_option linter.unusedSimpArgs false
namespace Go.Proofs.Ythcmfjpheanphaa.Pr
open Go.RowKit Go.Proofs.YthcmfjpheanphaaW.PrintWords
theorem wide_eq (t : List S56) (kk : Int) (h1 : t.length ≤ 3000) : (ofP t).2 = 4 ∨ (ofP (wideN t kk t.length)).2 = 4 ∨ ((ofP t).2 = (ofP (wideN t kk t.length)).2 ∧ tree_Same.f (ofP t).1 (ofP (wideN t kk t.length)).1 = some true) := by
 have hn := wideN_near t kk
 have e2 : ∀ u : List S56, (ofP u).2 = checkP u := fun u => by
  unfold ofP
  by_cases hc : checkP u = 0
  ·rw [if_pos hc, hc]
  ·rw [if_neg hc]
 rw [e2, e2]
 by_cases h4 : checkP t = 4
 ·exact .inl h4
 ·by_cases h5 : checkP (wideN t kk t.length) = 4
  ·exact .inr (.inl h5)
  ·have he : checkP t = checkP (wideN t kk t.length) := by
    rcases hn with e | ⟨e | e, f | f⟩
    ·exact e
    ·rw [e, f]
    ·exact absurd f h5
    ·exact absurd e h4
    ·exact absurd e h4
   refine .inr (.inr ⟨he, ?_⟩)
   unfold tree_Same.f ofP
   by_cases hc : checkP t = 0
   ·have hc2 : checkP (wideN t kk t.length) = 0 := by rw [← he]; exact hc
    have l1 := normP_len t
    have l2 := normP_len (wideN t kk t.length)
    rw [wideN_len] at l2
    rw [if_pos hc, if_pos hc2, if_pos ⟨by show (normP t).length ≤ _; omega, by show (normP (wideN t kk t.length)).length ≤ _; omega⟩]
    exact congrArg some (wideN_same t kk hc).norm
   ·have hc2 : ¬ checkP (wideN t kk t.length) = 0 := by rw [← he]; exact hc
    rw [if_neg hc, if_neg hc2, if_pos ⟨Nat.zero_le _, Nat.zero_le _⟩]
    rfl
theorem normWhite_row (A0 : Option Addr) (c0 : Nat) (t : List S56) (kk : Int) (w : World) (h0 : Kd.C k56 w A0 t.length t ∧ ∀ x ∈ t, Fit56 x) (hc0 : t.length ≤ c0) (_ : t.length * 40 ≤ 140737488351232) :
  Calls Try.prog 17 #[.slice A0 t.length c0, .int .i64 kk] w fun e w' => e = .returned (.bool true) ∧ Below w.heap.size w w' := by
 obtain ⟨n1, n2, n3, n4, n5, n6⟩ := NB_big
 have hv := vast5_f t NB (by omega)
 cases hb : vastB t with
 | true => exact normWhite_vast A0 c0 t kk w h0.1 hc0 NB (by rw [hv, hb]) awake5_f
 | false =>
  obtain ⟨l1, l2⟩ := vastB_small hb
  have hF : Fair t := ⟨by omega, fun x hx => by have := l2 x hx; omega, fun x hx => fit_kind (h0.2 x hx)⟩
  have hF2 : Fair (wideN t kk t.length) := by
   refine ⟨by rw [wideN_len]; omega, fun x hx => ?_, fun x hx => ?_⟩
   ·obtain ⟨i, hi, rfl⟩ := List.getElem_of_mem hx
    rw [wideN_len] at hi
    rw [← rd_get _ i (by rw [wideN_len]; exact hi), wideN_rd t kk i hi]
    have h3 := wideP_size (rd_T56 t i).f1 kk i (rd_T56 t i).f1.size
    have h4 := l2 (rd_T56 t i) (by rw [rd_get t i hi]; exact List.getElem_mem hi)
    show (wideP (rd_T56 t i).f1 kk i (rd_T56 t i).f1.size).size ≤ 10000
    omega
   ·obtain ⟨i, hi, rfl⟩ := List.getElem_of_mem hx
    rw [wideN_len] at hi
    rw [← rd_get _ i (by rw [wideN_len]; exact hi), wideN_rd t kk i hi]
    have h5 : 0 ≤ (rd_T56 t i).f0 ∧ (rd_T56 t i).f0 ≤ 255 := fit_kind (h0.2 (rd_T56 t i) (by rw [rd_get t i hi]; exact List.getElem_mem hi))
    exact h5
  exact normWhite_walk A0 c0 t kk w h0.1 hc0 NB (by rw [hv, hb]) awake5_f (ofP t).1 (ofP (wideN t kk t.length)).1 (ofP t).2 (ofP (wideN t kk t.length)).2 (norm_f hF NB (Nat.le_refl _)) (norm_f hF2 NB (Nat.le_refl _)) (wide_eq t kk (by omega)) (by omega) (fun x hx => by have := l2 x hx; omega)
end Go.Proofs.Ythcmfjpheanphaa.Pr
namespace Go.Proofs.Ythcmfjpheanphaa.normWhite
open Go.ChangeShapes Go.WideShapes Go.ChangeAt Go.RowKit Go.Proofs.YthcmfjpheanphaaW.PrintWords
open Go.ChangeMaps (open_string shut_string)
theorem own : ownKnob Try.prog.godebug = none := by kernel_rfl
theorem laidOut : laidOutB Try.prog = true := by kernel_rfl
set_option maxRecDepth 100000 in
theorem lifted (os : Os) (started : os.Started) (H : Type) (enc : TypeId × Value → H) :
  ReturnsInHanded {} Try.checked os 17 .any (Rows.normWhiteSpec.pre6 enc Try.prog Try.f17 Rows.normWhiteRow.domain false) (Rows.normWhiteSpec.post enc Try.prog Try.f17 false true false false) := by
 refine returnsInHanded_of_change_sized (C := Try.checked) own started (by kernel_rfl) Try.func17
  (ChangeSpec.witness6 (enc := enc) (C := Try.checked) false ⟨#[], #[.slice none 0 0, .int .i64 0], []⟩ 8 (by kernel_rfl) (by kernel_rfl) (by kernel_rfl) (by kernel_rfl)) ?_
 intro W base args ds gs before hval0 hW hcnd hsz0 _
 have hsz : (DataW.weightsEach Try.prog (Try.f17.params.toList ++ Rows.normWhiteSpec.plain.varTypes Try.prog) (ds ++ gs)).all (· ≤ reachBytes) = true := hsz0
 have hval : ∀ (j : Nat) t v, Try.f17.params[j]? = some t → args[j]? = some v → Value.okWide Try.prog W .any base t v := hval0
 have hW' := hW
 obtain ⟨p, q, hA0, hV, rfl, hfz, hnd⟩ := hW
 have hA : DataW.TrodAll enc Try.prog W 0 (fun _ => true) true Try.f17.params.toList args.toList ds p := hA0
 rw [Try.params17] at hA hval hsz
 obtain ⟨v0, vs0, d0, ds0, p0, q0, hargs, rfl, rfl, h0, r0⟩ := trodAll_cons hA
 obtain ⟨v1, vs1, d1, ds1, p1, q1, rfl, rfl, rfl, h1, r1⟩ := trodAll_cons r0
 obtain ⟨rfl, rfl, rfl⟩ := trodAll_nil r1
 obtain rfl : args = #[v0, v1] := by cases args; simp_all
 obtain ⟨rfl, rfl⟩ := trodVars_none hV
 obtain ⟨a0, len0, cap0, rfl⟩ := okWide_slice Try.underlying50 (hval 0 50 v0 rfl rfl)
 have k0 := h0
 have lt0 : ∀ x ∈ p0, x.block < W.heap.size := by obtain ⟨m, hm⟩ := k0; exact DataW.trod_lt m _ _ _ hm
 obtain ⟨l0, rfl, hr0, hc0, y0⟩ := Pr.open_N hsz (j := 0) rfl rfl h0
 obtain ⟨a1, rfl, rfl, rfl, w1⟩ := open_int Try.underlying3 (hval 1 3 v1 rfl rfl) h1
 clear hA0 hval0 hsz0 hsz
 refine (Pr.normWhite_row a0 cap0 l0 a1 W hr0 hc0 y0).mono fun e W' ⟨he, bel⟩ => ?_
 subst he
 exact ⟨_, rfl, _, _, _, [], _, [], hW', trodAll_mk1 (shut_bool Try.underlying4 _), (trodAll_cons_mk (Below.trod laidOut (by kernel_rfl) (of_decide_eq_true (by kernel_rfl)) k0 bel lt0) (trodAll_cons_mk (shut_int Try.underlying3 w1) trodAll_mk0)), rfl, bel.frame _, fun h => by cases h⟩
end Go.Proofs.Ythcmfjpheanphaa.normWhite
