/- Texts of this seat, one behind the other. -/
import Derived.Test.YthcmfjpheanphaaXTreeChecks1
import Derived.Test.YthcmfjpheanphaaXTreeChecks2
import Derived.Test.YthcmfjpheanphaaXTreeChecks3
import Derived.Test.YthcmfjpheanphaaXTreeChecks4
import Derived.Test.YthcmfjpheanphaaXTreeChecks5
import Derived.Test.YthcmfjpheanphaaXTreeChecks6
import Derived.Test.YthcmfjpheanphaaXTreeChecks7
import Derived.Test.YthcmfjpheanphaaXTreeChecks8
set_option linter.unusedVariables false
set_option linter.unusedSimpArgs false
namespace Go.Proofs.Ythcmfjpheanphaa.Pr
open Go.RowKit Go.Proofs.YthcmfjpheanphaaW.PrintWords Go.Proofs.YthcmfjpheanphaaW.PrintLast Go.Proofs.YthcmfjpheanphaaW.PrintMore
attribute [local go_sem] max2_int min2_int max_two min_two max_three min_three max_four min_four
mutual
def stylusref04_opens.j0 : Nat → List (S159) → Int → Bool → Int → ByteArray → Int → Int → Int → ByteArray → Option (Bool)
 | 0, _, _, _, _, _, _, _, _, _ => none
 | k + 1, x0, x1, x42, x192000, x192001, x192002, x192003, x192004, x192005 => if x42 = true then (some true) else (if x192000 = 114 then (if x1 = 99 then (some (decide ((x192001.size : Int) < 8))) else (some false)) else ((stylusref04_Texts.f k x0).bind fun t193 => (if t193 = true then ((stylusref04_in.f k x1 (⟨#[101, 115, 110]⟩ : ByteArray)).bind fun t194 => (if t194 = true then ((stylusref04_many.f k x0 x1).bind fun t195 => (stylusref04_opens.j1 k x0 x1 (decide (t195 > 0)))) else (stylusref04_opens.j1 k x0 x1 true))) else (stylusref04_opens.j1 k x0 x1 true))))
def stylusref04_opens.j1 : Nat → List (S159) → Int → Bool → Option (Bool)
 | 0, _, _, _ => none
 | k + 1, x0, x1, x67 => if x67 = true then (some false) else (if x1 = 110 then ((stylusref04_last.f k x0 (⟨#[49, 50, 51, 112, 105]⟩ : ByteArray)).bind fun t196 => ((stylusref04_many.f k x0 99).bind fun t197 => (if t197 = 0 then (if t196 > 0 then (if 0 ≤ t196 then (if t196 < (x0.length : Int) then (some (((rd_T159 x0 t196).f3) == 0)) else (none)) else (none)) else (some false)) else (some false)))) else (some true))
end
def stylusref04_opens.f (k : Nat) (l0 : List (S159)) (a1 : Int) : Option (Bool) := if 0 ≤ (wrap64 ((l0.length : Int) - 1)) then (if (wrap64 ((l0.length : Int) - 1)) < (l0.length : Int) then (if (l0.length : Int) = 1 then ((stylusref04_in.f k a1 (⟨#[49, 50, 51, 112, 108, 116, 107]⟩ : ByteArray)).bind fun t192 => (some t192)) else (if ((rd_T159 l0 (wrap64 ((l0.length : Int) - 1))).f0) = 105 then (if a1 = 108 then (stylusref04_opens.j0 k l0 a1 true ((rd_T159 l0 (wrap64 ((l0.length : Int) - 1))).f0) ((rd_T159 l0 (wrap64 ((l0.length : Int) - 1))).f1) ((rd_T159 l0 (wrap64 ((l0.length : Int) - 1))).f2) ((rd_T159 l0 (wrap64 ((l0.length : Int) - 1))).f3) ((rd_T159 l0 (wrap64 ((l0.length : Int) - 1))).f4) ((rd_T159 l0 (wrap64 ((l0.length : Int) - 1))).f5)) else (if ((rd_T159 l0 (wrap64 ((l0.length : Int) - 1))).f0) = 108 then (if a1 = 105 then (stylusref04_opens.j0 k l0 a1 true ((rd_T159 l0 (wrap64 ((l0.length : Int) - 1))).f0) ((rd_T159 l0 (wrap64 ((l0.length : Int) - 1))).f1) ((rd_T159 l0 (wrap64 ((l0.length : Int) - 1))).f2) ((rd_T159 l0 (wrap64 ((l0.length : Int) - 1))).f3) ((rd_T159 l0 (wrap64 ((l0.length : Int) - 1))).f4) ((rd_T159 l0 (wrap64 ((l0.length : Int) - 1))).f5)) else (if ((rd_T159 l0 (wrap64 ((l0.length : Int) - 1))).f0) = 116 then (stylusref04_opens.j0 k l0 a1 (a1 == 114) ((rd_T159 l0 (wrap64 ((l0.length : Int) - 1))).f0) ((rd_T159 l0 (wrap64 ((l0.length : Int) - 1))).f1) ((rd_T159 l0 (wrap64 ((l0.length : Int) - 1))).f2) ((rd_T159 l0 (wrap64 ((l0.length : Int) - 1))).f3) ((rd_T159 l0 (wrap64 ((l0.length : Int) - 1))).f4) ((rd_T159 l0 (wrap64 ((l0.length : Int) - 1))).f5)) else (stylusref04_opens.j0 k l0 a1 false ((rd_T159 l0 (wrap64 ((l0.length : Int) - 1))).f0) ((rd_T159 l0 (wrap64 ((l0.length : Int) - 1))).f1) ((rd_T159 l0 (wrap64 ((l0.length : Int) - 1))).f2) ((rd_T159 l0 (wrap64 ((l0.length : Int) - 1))).f3) ((rd_T159 l0 (wrap64 ((l0.length : Int) - 1))).f4) ((rd_T159 l0 (wrap64 ((l0.length : Int) - 1))).f5)))) else (if ((rd_T159 l0 (wrap64 ((l0.length : Int) - 1))).f0) = 116 then (stylusref04_opens.j0 k l0 a1 (a1 == 114) ((rd_T159 l0 (wrap64 ((l0.length : Int) - 1))).f0) ((rd_T159 l0 (wrap64 ((l0.length : Int) - 1))).f1) ((rd_T159 l0 (wrap64 ((l0.length : Int) - 1))).f2) ((rd_T159 l0 (wrap64 ((l0.length : Int) - 1))).f3) ((rd_T159 l0 (wrap64 ((l0.length : Int) - 1))).f4) ((rd_T159 l0 (wrap64 ((l0.length : Int) - 1))).f5)) else (stylusref04_opens.j0 k l0 a1 false ((rd_T159 l0 (wrap64 ((l0.length : Int) - 1))).f0) ((rd_T159 l0 (wrap64 ((l0.length : Int) - 1))).f1) ((rd_T159 l0 (wrap64 ((l0.length : Int) - 1))).f2) ((rd_T159 l0 (wrap64 ((l0.length : Int) - 1))).f3) ((rd_T159 l0 (wrap64 ((l0.length : Int) - 1))).f4) ((rd_T159 l0 (wrap64 ((l0.length : Int) - 1))).f5))))) else (if ((rd_T159 l0 (wrap64 ((l0.length : Int) - 1))).f0) = 108 then (if a1 = 105 then (stylusref04_opens.j0 k l0 a1 true ((rd_T159 l0 (wrap64 ((l0.length : Int) - 1))).f0) ((rd_T159 l0 (wrap64 ((l0.length : Int) - 1))).f1) ((rd_T159 l0 (wrap64 ((l0.length : Int) - 1))).f2) ((rd_T159 l0 (wrap64 ((l0.length : Int) - 1))).f3) ((rd_T159 l0 (wrap64 ((l0.length : Int) - 1))).f4) ((rd_T159 l0 (wrap64 ((l0.length : Int) - 1))).f5)) else (if ((rd_T159 l0 (wrap64 ((l0.length : Int) - 1))).f0) = 116 then (stylusref04_opens.j0 k l0 a1 (a1 == 114) ((rd_T159 l0 (wrap64 ((l0.length : Int) - 1))).f0) ((rd_T159 l0 (wrap64 ((l0.length : Int) - 1))).f1) ((rd_T159 l0 (wrap64 ((l0.length : Int) - 1))).f2) ((rd_T159 l0 (wrap64 ((l0.length : Int) - 1))).f3) ((rd_T159 l0 (wrap64 ((l0.length : Int) - 1))).f4) ((rd_T159 l0 (wrap64 ((l0.length : Int) - 1))).f5)) else (stylusref04_opens.j0 k l0 a1 false ((rd_T159 l0 (wrap64 ((l0.length : Int) - 1))).f0) ((rd_T159 l0 (wrap64 ((l0.length : Int) - 1))).f1) ((rd_T159 l0 (wrap64 ((l0.length : Int) - 1))).f2) ((rd_T159 l0 (wrap64 ((l0.length : Int) - 1))).f3) ((rd_T159 l0 (wrap64 ((l0.length : Int) - 1))).f4) ((rd_T159 l0 (wrap64 ((l0.length : Int) - 1))).f5)))) else (if ((rd_T159 l0 (wrap64 ((l0.length : Int) - 1))).f0) = 116 then (stylusref04_opens.j0 k l0 a1 (a1 == 114) ((rd_T159 l0 (wrap64 ((l0.length : Int) - 1))).f0) ((rd_T159 l0 (wrap64 ((l0.length : Int) - 1))).f1) ((rd_T159 l0 (wrap64 ((l0.length : Int) - 1))).f2) ((rd_T159 l0 (wrap64 ((l0.length : Int) - 1))).f3) ((rd_T159 l0 (wrap64 ((l0.length : Int) - 1))).f4) ((rd_T159 l0 (wrap64 ((l0.length : Int) - 1))).f5)) else (stylusref04_opens.j0 k l0 a1 false ((rd_T159 l0 (wrap64 ((l0.length : Int) - 1))).f0) ((rd_T159 l0 (wrap64 ((l0.length : Int) - 1))).f1) ((rd_T159 l0 (wrap64 ((l0.length : Int) - 1))).f2) ((rd_T159 l0 (wrap64 ((l0.length : Int) - 1))).f3) ((rd_T159 l0 (wrap64 ((l0.length : Int) - 1))).f4) ((rd_T159 l0 (wrap64 ((l0.length : Int) - 1))).f5)))))) else (none)) else (none)
theorem stylusref04_opens.mono_l : ∀ k, (∀ y0 y1 y2 y3 y4 y5 y6 y7 y8, LeO (stylusref04_opens.j0 k y0 y1 y2 y3 y4 y5 y6 y7 y8) (stylusref04_opens.j0 (k + 1) y0 y1 y2 y3 y4 y5 y6 y7 y8)) ∧ (∀ y0 y1 y2, LeO (stylusref04_opens.j1 k y0 y1 y2) (stylusref04_opens.j1 (k + 1) y0 y1 y2))
 | 0 => ⟨fun _ _ _ _ _ _ _ _ _ r h => by simp [stylusref04_opens.j0] at h, fun _ _ _ r h => by simp [stylusref04_opens.j1] at h⟩
 | k + 1 => by
  obtain ⟨ih0, ih1⟩ := stylusref04_opens.mono_l k
  refine ⟨?_, ?_⟩
  ·intro y0 y1 y2 y3 y4 y5 y6 y7 y8
   unfold stylusref04_opens.j0
   repeat' first
   | (with_reducible exact ih0 _ _ _ _ _ _ _ _ _)
   | (with_reducible exact ih1 _ _ _)
   | (with_reducible exact stylusref04_Texts.mono _ _)
   | (with_reducible exact stylusref04_in.mono _ _ _)
   | (with_reducible exact stylusref04_last.mono _ _ _)
   | (with_reducible exact stylusref04_many.mono _ _ _)
   | (with_reducible exact LeO.refl _)
   | (with_reducible exact LeO.none _)
   | (with_reducible refine LeO.ite ?_ ?_)
   | (with_reducible refine LeO.bind ?_ (fun _ => ?_))
   | exact ih0 _ _ _ _ _ _ _ _ _
   | exact ih1 _ _ _
   | exact stylusref04_Texts.mono _ _
   | exact stylusref04_in.mono _ _ _
   | exact stylusref04_last.mono _ _ _
   | exact stylusref04_many.mono _ _ _
   | exact LeO.none _
   | refine LeO.ite ?_ ?_
   | refine LeO.bind ?_ (fun _ => ?_)
  ·intro y0 y1 y2
   unfold stylusref04_opens.j1
   repeat' first
   | (with_reducible exact ih0 _ _ _ _ _ _ _ _ _)
   | (with_reducible exact ih1 _ _ _)
   | (with_reducible exact stylusref04_Texts.mono _ _)
   | (with_reducible exact stylusref04_in.mono _ _ _)
   | (with_reducible exact stylusref04_last.mono _ _ _)
   | (with_reducible exact stylusref04_many.mono _ _ _)
   | (with_reducible exact LeO.refl _)
   | (with_reducible exact LeO.none _)
   | (with_reducible refine LeO.ite ?_ ?_)
   | (with_reducible refine LeO.bind ?_ (fun _ => ?_))
   | exact ih0 _ _ _ _ _ _ _ _ _
   | exact ih1 _ _ _
   | exact stylusref04_Texts.mono _ _
   | exact stylusref04_in.mono _ _ _
   | exact stylusref04_last.mono _ _ _
   | exact stylusref04_many.mono _ _ _
   | exact LeO.none _
   | refine LeO.ite ?_ ?_
   | refine LeO.bind ?_ (fun _ => ?_)
theorem stylusref04_opens.mono : ∀ a0 a1 k, LeO (stylusref04_opens.f k a0 a1) (stylusref04_opens.f (k + 1) a0 a1) := by
 intro a0 a1 k
 obtain ⟨ih0, ih1⟩ := stylusref04_opens.mono_l k
 unfold stylusref04_opens.f
 repeat' first
   | (with_reducible exact ih0 _ _ _ _ _ _ _ _ _)
   | (with_reducible exact ih1 _ _ _)
   | (with_reducible exact stylusref04_Texts.mono _ _)
   | (with_reducible exact stylusref04_in.mono _ _ _)
   | (with_reducible exact stylusref04_last.mono _ _ _)
   | (with_reducible exact stylusref04_many.mono _ _ _)
   | (with_reducible exact LeO.refl _)
   | (with_reducible exact LeO.none _)
   | (with_reducible refine LeO.ite ?_ ?_)
   | (with_reducible refine LeO.bind ?_ (fun _ => ?_))
   | exact ih0 _ _ _ _ _ _ _ _ _
   | exact ih1 _ _ _
   | exact stylusref04_Texts.mono _ _
   | exact stylusref04_in.mono _ _ _
   | exact stylusref04_last.mono _ _ _
   | exact stylusref04_many.mono _ _ _
   | exact LeO.none _
   | refine LeO.ite ?_ ?_
   | refine LeO.bind ?_ (fun _ => ?_)
set_option maxHeartbeats 8000000 in
set_option maxRecDepth 100000 in
theorem stylusref04_opens.calls (k : Nat) (A0 : Option Addr) (c0 : Nat) (l0 : List (S159)) (a1 : Int) (r : Bool) (w : World) (hr0 : Kd.C k159 w A0 l0.length l0) (hc0 : l0.length ≤ c0) (h : stylusref04_opens.f k l0 a1 = some r) :
  Calls Try.prog 138 #[.slice A0 l0.length c0, .int .u8 a1] w fun e w' => e = .returned (.bool r) ∧ Below w.heap.size w w' := by
 have hu159 := Try.underlying159
 have HR0 := Aside0.mk hr0
 have HC0 := Aside0.mk hc0
 clear hr0 hc0
 have HB := Aside0.mk (Below.refl w.heap.size w)
 have H : (if 0 ≤ (wrap64 ((l0.length : Int) - 1)) then (if (wrap64 ((l0.length : Int) - 1)) < (l0.length : Int) then (if (l0.length : Int) = 1 then ((stylusref04_in.f k a1 (⟨#[49, 50, 51, 112, 108, 116, 107]⟩ : ByteArray)).bind fun t192 => (some t192)) else (if ((rd_T159 l0 (wrap64 ((l0.length : Int) - 1))).f0) = 105 then (if a1 = 108 then (stylusref04_opens.j0 k l0 a1 true ((rd_T159 l0 (wrap64 ((l0.length : Int) - 1))).f0) ((rd_T159 l0 (wrap64 ((l0.length : Int) - 1))).f1) ((rd_T159 l0 (wrap64 ((l0.length : Int) - 1))).f2) ((rd_T159 l0 (wrap64 ((l0.length : Int) - 1))).f3) ((rd_T159 l0 (wrap64 ((l0.length : Int) - 1))).f4) ((rd_T159 l0 (wrap64 ((l0.length : Int) - 1))).f5)) else (if ((rd_T159 l0 (wrap64 ((l0.length : Int) - 1))).f0) = 108 then (if a1 = 105 then (stylusref04_opens.j0 k l0 a1 true ((rd_T159 l0 (wrap64 ((l0.length : Int) - 1))).f0) ((rd_T159 l0 (wrap64 ((l0.length : Int) - 1))).f1) ((rd_T159 l0 (wrap64 ((l0.length : Int) - 1))).f2) ((rd_T159 l0 (wrap64 ((l0.length : Int) - 1))).f3) ((rd_T159 l0 (wrap64 ((l0.length : Int) - 1))).f4) ((rd_T159 l0 (wrap64 ((l0.length : Int) - 1))).f5)) else (if ((rd_T159 l0 (wrap64 ((l0.length : Int) - 1))).f0) = 116 then (stylusref04_opens.j0 k l0 a1 (a1 == 114) ((rd_T159 l0 (wrap64 ((l0.length : Int) - 1))).f0) ((rd_T159 l0 (wrap64 ((l0.length : Int) - 1))).f1) ((rd_T159 l0 (wrap64 ((l0.length : Int) - 1))).f2) ((rd_T159 l0 (wrap64 ((l0.length : Int) - 1))).f3) ((rd_T159 l0 (wrap64 ((l0.length : Int) - 1))).f4) ((rd_T159 l0 (wrap64 ((l0.length : Int) - 1))).f5)) else (stylusref04_opens.j0 k l0 a1 false ((rd_T159 l0 (wrap64 ((l0.length : Int) - 1))).f0) ((rd_T159 l0 (wrap64 ((l0.length : Int) - 1))).f1) ((rd_T159 l0 (wrap64 ((l0.length : Int) - 1))).f2) ((rd_T159 l0 (wrap64 ((l0.length : Int) - 1))).f3) ((rd_T159 l0 (wrap64 ((l0.length : Int) - 1))).f4) ((rd_T159 l0 (wrap64 ((l0.length : Int) - 1))).f5)))) else (if ((rd_T159 l0 (wrap64 ((l0.length : Int) - 1))).f0) = 116 then (stylusref04_opens.j0 k l0 a1 (a1 == 114) ((rd_T159 l0 (wrap64 ((l0.length : Int) - 1))).f0) ((rd_T159 l0 (wrap64 ((l0.length : Int) - 1))).f1) ((rd_T159 l0 (wrap64 ((l0.length : Int) - 1))).f2) ((rd_T159 l0 (wrap64 ((l0.length : Int) - 1))).f3) ((rd_T159 l0 (wrap64 ((l0.length : Int) - 1))).f4) ((rd_T159 l0 (wrap64 ((l0.length : Int) - 1))).f5)) else (stylusref04_opens.j0 k l0 a1 false ((rd_T159 l0 (wrap64 ((l0.length : Int) - 1))).f0) ((rd_T159 l0 (wrap64 ((l0.length : Int) - 1))).f1) ((rd_T159 l0 (wrap64 ((l0.length : Int) - 1))).f2) ((rd_T159 l0 (wrap64 ((l0.length : Int) - 1))).f3) ((rd_T159 l0 (wrap64 ((l0.length : Int) - 1))).f4) ((rd_T159 l0 (wrap64 ((l0.length : Int) - 1))).f5))))) else (if ((rd_T159 l0 (wrap64 ((l0.length : Int) - 1))).f0) = 108 then (if a1 = 105 then (stylusref04_opens.j0 k l0 a1 true ((rd_T159 l0 (wrap64 ((l0.length : Int) - 1))).f0) ((rd_T159 l0 (wrap64 ((l0.length : Int) - 1))).f1) ((rd_T159 l0 (wrap64 ((l0.length : Int) - 1))).f2) ((rd_T159 l0 (wrap64 ((l0.length : Int) - 1))).f3) ((rd_T159 l0 (wrap64 ((l0.length : Int) - 1))).f4) ((rd_T159 l0 (wrap64 ((l0.length : Int) - 1))).f5)) else (if ((rd_T159 l0 (wrap64 ((l0.length : Int) - 1))).f0) = 116 then (stylusref04_opens.j0 k l0 a1 (a1 == 114) ((rd_T159 l0 (wrap64 ((l0.length : Int) - 1))).f0) ((rd_T159 l0 (wrap64 ((l0.length : Int) - 1))).f1) ((rd_T159 l0 (wrap64 ((l0.length : Int) - 1))).f2) ((rd_T159 l0 (wrap64 ((l0.length : Int) - 1))).f3) ((rd_T159 l0 (wrap64 ((l0.length : Int) - 1))).f4) ((rd_T159 l0 (wrap64 ((l0.length : Int) - 1))).f5)) else (stylusref04_opens.j0 k l0 a1 false ((rd_T159 l0 (wrap64 ((l0.length : Int) - 1))).f0) ((rd_T159 l0 (wrap64 ((l0.length : Int) - 1))).f1) ((rd_T159 l0 (wrap64 ((l0.length : Int) - 1))).f2) ((rd_T159 l0 (wrap64 ((l0.length : Int) - 1))).f3) ((rd_T159 l0 (wrap64 ((l0.length : Int) - 1))).f4) ((rd_T159 l0 (wrap64 ((l0.length : Int) - 1))).f5)))) else (if ((rd_T159 l0 (wrap64 ((l0.length : Int) - 1))).f0) = 116 then (stylusref04_opens.j0 k l0 a1 (a1 == 114) ((rd_T159 l0 (wrap64 ((l0.length : Int) - 1))).f0) ((rd_T159 l0 (wrap64 ((l0.length : Int) - 1))).f1) ((rd_T159 l0 (wrap64 ((l0.length : Int) - 1))).f2) ((rd_T159 l0 (wrap64 ((l0.length : Int) - 1))).f3) ((rd_T159 l0 (wrap64 ((l0.length : Int) - 1))).f4) ((rd_T159 l0 (wrap64 ((l0.length : Int) - 1))).f5)) else (stylusref04_opens.j0 k l0 a1 false ((rd_T159 l0 (wrap64 ((l0.length : Int) - 1))).f0) ((rd_T159 l0 (wrap64 ((l0.length : Int) - 1))).f1) ((rd_T159 l0 (wrap64 ((l0.length : Int) - 1))).f2) ((rd_T159 l0 (wrap64 ((l0.length : Int) - 1))).f3) ((rd_T159 l0 (wrap64 ((l0.length : Int) - 1))).f4) ((rd_T159 l0 (wrap64 ((l0.length : Int) - 1))).f5)))))) else (none)) else (none)) = some r := h
 clear h
 obtain ⟨ji3, hji3⟩ : ∃ j_ : Int, (wrap64 ((l0.length : Int) - 1)) = j_ := ⟨_, rfl⟩
 replace H : (if 0 ≤ (ji3) then (if (ji3) < (l0.length : Int) then (if (l0.length : Int) = 1 then ((stylusref04_in.f k a1 (⟨#[49, 50, 51, 112, 108, 116, 107]⟩ : ByteArray)).bind fun t192 => (some t192)) else (if ((rd_T159 l0 (ji3)).f0) = 105 then (if a1 = 108 then (stylusref04_opens.j0 k l0 a1 true ((rd_T159 l0 (ji3)).f0) ((rd_T159 l0 (ji3)).f1) ((rd_T159 l0 (ji3)).f2) ((rd_T159 l0 (ji3)).f3) ((rd_T159 l0 (ji3)).f4) ((rd_T159 l0 (ji3)).f5)) else (if ((rd_T159 l0 (ji3)).f0) = 108 then (if a1 = 105 then (stylusref04_opens.j0 k l0 a1 true ((rd_T159 l0 (ji3)).f0) ((rd_T159 l0 (ji3)).f1) ((rd_T159 l0 (ji3)).f2) ((rd_T159 l0 (ji3)).f3) ((rd_T159 l0 (ji3)).f4) ((rd_T159 l0 (ji3)).f5)) else (if ((rd_T159 l0 (ji3)).f0) = 116 then (stylusref04_opens.j0 k l0 a1 (a1 == 114) ((rd_T159 l0 (ji3)).f0) ((rd_T159 l0 (ji3)).f1) ((rd_T159 l0 (ji3)).f2) ((rd_T159 l0 (ji3)).f3) ((rd_T159 l0 (ji3)).f4) ((rd_T159 l0 (ji3)).f5)) else (stylusref04_opens.j0 k l0 a1 false ((rd_T159 l0 (ji3)).f0) ((rd_T159 l0 (ji3)).f1) ((rd_T159 l0 (ji3)).f2) ((rd_T159 l0 (ji3)).f3) ((rd_T159 l0 (ji3)).f4) ((rd_T159 l0 (ji3)).f5)))) else (if ((rd_T159 l0 (ji3)).f0) = 116 then (stylusref04_opens.j0 k l0 a1 (a1 == 114) ((rd_T159 l0 (ji3)).f0) ((rd_T159 l0 (ji3)).f1) ((rd_T159 l0 (ji3)).f2) ((rd_T159 l0 (ji3)).f3) ((rd_T159 l0 (ji3)).f4) ((rd_T159 l0 (ji3)).f5)) else (stylusref04_opens.j0 k l0 a1 false ((rd_T159 l0 (ji3)).f0) ((rd_T159 l0 (ji3)).f1) ((rd_T159 l0 (ji3)).f2) ((rd_T159 l0 (ji3)).f3) ((rd_T159 l0 (ji3)).f4) ((rd_T159 l0 (ji3)).f5))))) else (if ((rd_T159 l0 (ji3)).f0) = 108 then (if a1 = 105 then (stylusref04_opens.j0 k l0 a1 true ((rd_T159 l0 (ji3)).f0) ((rd_T159 l0 (ji3)).f1) ((rd_T159 l0 (ji3)).f2) ((rd_T159 l0 (ji3)).f3) ((rd_T159 l0 (ji3)).f4) ((rd_T159 l0 (ji3)).f5)) else (if ((rd_T159 l0 (ji3)).f0) = 116 then (stylusref04_opens.j0 k l0 a1 (a1 == 114) ((rd_T159 l0 (ji3)).f0) ((rd_T159 l0 (ji3)).f1) ((rd_T159 l0 (ji3)).f2) ((rd_T159 l0 (ji3)).f3) ((rd_T159 l0 (ji3)).f4) ((rd_T159 l0 (ji3)).f5)) else (stylusref04_opens.j0 k l0 a1 false ((rd_T159 l0 (ji3)).f0) ((rd_T159 l0 (ji3)).f1) ((rd_T159 l0 (ji3)).f2) ((rd_T159 l0 (ji3)).f3) ((rd_T159 l0 (ji3)).f4) ((rd_T159 l0 (ji3)).f5)))) else (if ((rd_T159 l0 (ji3)).f0) = 116 then (stylusref04_opens.j0 k l0 a1 (a1 == 114) ((rd_T159 l0 (ji3)).f0) ((rd_T159 l0 (ji3)).f1) ((rd_T159 l0 (ji3)).f2) ((rd_T159 l0 (ji3)).f3) ((rd_T159 l0 (ji3)).f4) ((rd_T159 l0 (ji3)).f5)) else (stylusref04_opens.j0 k l0 a1 false ((rd_T159 l0 (ji3)).f0) ((rd_T159 l0 (ji3)).f1) ((rd_T159 l0 (ji3)).f2) ((rd_T159 l0 (ji3)).f3) ((rd_T159 l0 (ji3)).f4) ((rd_T159 l0 (ji3)).f5)))))) else (none)) else (none)) = some r := by first | (rw [hji3] at H; exact H) | (simp only [hji3] at H ⊢; exact H)
 have hji3w : (IntKind.i64.wrap ((l0.length : Int) - 1)) = ji3 := (i64_w _).trans hji3
 by_cases c4 : 0 ≤ (ji3)
 ·rw [if_pos c4] at H
  have c4b0 : decide (0 ≤ (ji3)) = true := decide_eq_true c4
  clear c4
  by_cases c5 : (ji3) < (l0.length : Int)
  ·rw [if_pos c5] at H
   have c5b0 : decide ((ji3) < (l0.length : Int)) = true := decide_eq_true c5
   clear c5
   by_cases c6 : (l0.length : Int) = 1
   ·rw [if_pos c6] at H
    have c6b0 : ((l0.length : Int) == 1) = true := beq_iff_eq.mpr c6
    have c6b1 : ((l0.length : Int) != 1) = false := bne_eq_false_iff_eq.mpr c6
    clear c6
    replace H := Option.bind_eq_some_iff.mp H
    obtain ⟨t192, A70, H⟩ := H
    replace H : (some t192) = some r := H
    have A7 := Aside0.mk A70
    clear A70
    obtain rfl := Option.some.inj H
    have p190 : 0 ≤ ((ji3) : Int) := of_decide_eq_true (by first | (with_reducible assumption) | assumption)
    have q190 : (ji3) < (l0.length : Int) := of_decide_eq_true (by first | (with_reducible assumption) | assumption)
    obtain ⟨ad190, e190, hx190_0, hx190_1, hx190_2, hx190_3, hx190_4, hx190_5⟩ := at_T159 HR0.out (ji3) p190 q190
    cases e190
    replace p190 := eq_true p190
    replace q190 := eq_true q190
    go_enter Try.func138, Try.ntmps138
    go_wp2_with (first | ((with_reducible refine gate_dst (N := 5) rfl ?_); (try (refine gate_guard (by rfl) ?_; dsimp only)); refine box_event ?hg (N := 5) ?hd (cs := #[.int .u8 0, .string (⟨#[]⟩ : ByteArray), .int .i64 0, .int .i64 0, .int .i64 0, .string (⟨#[]⟩ : ByteArray)]) (t := 159) ?hr ?_; (case hd => rfl); (case hg => rfl); (case hr => first | (go_simp; done) | (go_simp; rfl)); intro gb191 hg w8 hbox hb; have n0_ := Aside0.mk (below_step (by repeat (first | (with_reducible first | exact HB.out | apply below_alloc | apply pw_below_drewN | apply below_drew1) | exact HB.out)) hb); have n1_ := Aside0.mk (hbox); have n2_ := Aside0.mk ((by rw [hg]; exact (below_size (by repeat (first | (with_reducible first | exact HB.out | apply below_alloc | apply pw_below_drewN | apply below_drew1) | exact HB.out))) : w.heap.size ≤ gb191)); have n3_ := Aside0.mk ((by rw [hg]; exact (below_size (by repeat (first | (with_reducible first | exact HB.out | apply below_alloc | apply pw_below_drewN | apply below_drew1) | exact HB.out))) : w.heap.size ≤ gb191)); clear HB; have HB := n0_; have BK191 := n1_; have GW191 := n2_; have GE191 := n3_; clear n0_ n1_ n2_ n3_; clear hb hbox hg; have hcz9_0 : w8.cell? ⟨gb191, 0, none⟩ = some (.int .u8 0) := (blk_cell BK191.out 0).trans rfl; have hcz9_1 : w8.cell? ⟨gb191, 1, none⟩ = some (.string (⟨#[]⟩ : ByteArray)) := (blk_cell BK191.out 1).trans rfl; have hcz9_2 : w8.cell? ⟨gb191, 2, none⟩ = some (.int .i64 0) := (blk_cell BK191.out 2).trans rfl; have hcz9_3 : w8.cell? ⟨gb191, 3, none⟩ = some (.int .i64 0) := (blk_cell BK191.out 3).trans rfl; have hcz9_4 : w8.cell? ⟨gb191, 4, none⟩ = some (.int .i64 0) := (blk_cell BK191.out 4).trans rfl; have hcz9_5 : w8.cell? ⟨gb191, 5, none⟩ = some (.string (⟨#[]⟩ : ByteArray)) := (blk_cell BK191.out 5).trans rfl; have hfz9_0 := blk_frozen BK191.out 0; have hfz9_1 := blk_frozen BK191.out 1; have hfz9_2 := blk_frozen BK191.out 2; have hfz9_3 := blk_frozen BK191.out 3; have hfz9_4 := blk_frozen BK191.out 4; have hfz9_5 := blk_frozen BK191.out 5) | ((with_reducible refine gate_callee (f := 140) rfl ?_); refine goesL_ (some 17) rfl rfl Try.func140 (by kernel_rfl) rfl #[.int .u8 a1, .string (⟨#[49, 50, 51, 112, 108, 116, 107]⟩ : ByteArray)] rfl (by (try simp only [List.map_toArray, List.map_cons, List.map_nil]); first | done | rfl | (simp only [List.length_drop, List.length_take]; rfl)) ?_; (with_reducible refine (stylusref04_in.calls k a1 (⟨#[49, 50, 51, 112, 108, 116, 107]⟩ : ByteArray) t192 _ A7.out).mono ?_); rintro e w' ⟨rfl, ⟨nd, rfl⟩⟩; refine ⟨_, rfl, ?_⟩))
    go_ret
    exact ⟨by first | rfl | (simp [errW_none, errW_some] <;> rfl) | (simp only [← hji3]; first | rfl | (simp [errW_none, errW_some] <;> rfl)) | (simp [*, errW_none, errW_some] <;> rfl), by repeat (first | (with_reducible first | exact HB.out | apply below_alloc | apply pw_below_drewN | apply below_drew1 | refine below_set ?_ GE191.out) | exact HB.out)⟩
   ·rw [if_neg c6] at H
    have c6b0 : ((l0.length : Int) == 1) = false := beq_eq_false_iff_ne.mpr c6
    have c6b1 : ((l0.length : Int) != 1) = true := bne_iff_ne.mpr c6
    have HC10 := Aside0.mk H
    clear H
    have p190 : 0 ≤ ((ji3) : Int) := of_decide_eq_true (by first | (with_reducible assumption) | assumption)
    have q190 : (ji3) < (l0.length : Int) := of_decide_eq_true (by first | (with_reducible assumption) | assumption)
    obtain ⟨ad190, e190, hx190_0, hx190_1, hx190_2, hx190_3, hx190_4, hx190_5⟩ := at_T159 HR0.out (ji3) p190 q190
    cases e190
    replace p190 := eq_true p190
    replace q190 := eq_true q190
    go_enter Try.func138, Try.ntmps138
    go_upto_region 4 with (first | ((with_reducible refine gate_dst (N := 5) rfl ?_); (try (refine gate_guard (by rfl) ?_; dsimp only)); refine box_event ?hg (N := 5) ?hd (cs := #[.int .u8 0, .string (⟨#[]⟩ : ByteArray), .int .i64 0, .int .i64 0, .int .i64 0, .string (⟨#[]⟩ : ByteArray)]) (t := 159) ?hr ?_; (case hd => rfl); (case hg => rfl); (case hr => first | (go_simp; done) | (go_simp; rfl)); intro gb191 hg w11 hbox hb; have n0_ := Aside0.mk (below_step (by repeat (first | (with_reducible first | exact HB.out | apply below_alloc | apply pw_below_drewN | apply below_drew1) | exact HB.out)) hb); have n1_ := Aside0.mk (hbox); have n2_ := Aside0.mk ((by rw [hg]; exact (below_size (by repeat (first | (with_reducible first | exact HB.out | apply below_alloc | apply pw_below_drewN | apply below_drew1) | exact HB.out))) : w.heap.size ≤ gb191)); have n3_ := Aside0.mk ((by rw [hg]; exact (below_size (by repeat (first | (with_reducible first | exact HB.out | apply below_alloc | apply pw_below_drewN | apply below_drew1) | exact HB.out))) : w.heap.size ≤ gb191)); clear HB; have HB := n0_; have BK191 := n1_; have GW191 := n2_; have GE191 := n3_; clear n0_ n1_ n2_ n3_; clear hb hbox hg; have hcz12_0 : w11.cell? ⟨gb191, 0, none⟩ = some (.int .u8 0) := (blk_cell BK191.out 0).trans rfl; have hcz12_1 : w11.cell? ⟨gb191, 1, none⟩ = some (.string (⟨#[]⟩ : ByteArray)) := (blk_cell BK191.out 1).trans rfl; have hcz12_2 : w11.cell? ⟨gb191, 2, none⟩ = some (.int .i64 0) := (blk_cell BK191.out 2).trans rfl; have hcz12_3 : w11.cell? ⟨gb191, 3, none⟩ = some (.int .i64 0) := (blk_cell BK191.out 3).trans rfl; have hcz12_4 : w11.cell? ⟨gb191, 4, none⟩ = some (.int .i64 0) := (blk_cell BK191.out 4).trans rfl; have hcz12_5 : w11.cell? ⟨gb191, 5, none⟩ = some (.string (⟨#[]⟩ : ByteArray)) := (blk_cell BK191.out 5).trans rfl; have hfz12_0 := blk_frozen BK191.out 0; have hfz12_1 := blk_frozen BK191.out 1; have hfz12_2 := blk_frozen BK191.out 2; have hfz12_3 := blk_frozen BK191.out 3; have hfz12_4 := blk_frozen BK191.out 4; have hfz12_5 := blk_frozen BK191.out 5))
    (try simp only [Act.put, List.setIfInBounds_toArray, List.set_cons_zero, List.set_cons_succ])
    go_cut [42] (fun v42 wc => ∃ (kq : Nat) (x42_9 : Bool), v42 = .bool x42_9 ∧ Aside0 (stylusref04_opens.j0 kq l0 a1 x42_9 ((rd_T159 l0 (ji3)).f0) ((rd_T159 l0 (ji3)).f1) ((rd_T159 l0 (ji3)).f2) ((rd_T159 l0 (ji3)).f3) ((rd_T159 l0 (ji3)).f4) ((rd_T159 l0 (ji3)).f5) = some r) ∧ Aside0 (kq ≤ k) ∧ Aside0 (wc.heap[gb191]? = some (.cells #[.int .u8 ((rd_T159 l0 (ji3)).f0), .string ((rd_T159 l0 (ji3)).f1), .int .i64 ((rd_T159 l0 (ji3)).f2), .int .i64 ((rd_T159 l0 (ji3)).f3), .int .i64 ((rd_T159 l0 (ji3)).f4), .string ((rd_T159 l0 (ji3)).f5)] 159 (0, 0))) ∧ Aside0 (Below w.heap.size w wc))
    case first =>
     have H := HC10.out
     clear HC10
     by_cases c13 : ((rd_T159 l0 (ji3)).f0) = 105
     ·rw [if_pos c13] at H
      have c13b0 : (((rd_T159 l0 (ji3)).f0) == 105) = true := beq_iff_eq.mpr c13
      have c13b1 : (((rd_T159 l0 (ji3)).f0) != 105) = false := bne_eq_false_iff_eq.mpr c13
      clear c13
      (first | rw [c13b0] | (simp only [i64_w, i32_w]; rw [c13b0]) | skip)
      by_cases c14 : a1 = 108
      ·rw [if_pos c14] at H
       have c14b0 : (a1 == 108) = true := beq_iff_eq.mpr c14
       have c14b1 : (a1 != 108) = false := bne_eq_false_iff_eq.mpr c14
       clear c14
       have H' := Aside0.mk H
       clear H
       have hcz15_0 : w11.cell? ⟨gb191, 0, none⟩ = some (.int .u8 0) := (blk_cell BK191.out 0).trans rfl
       have hcz15_1 : w11.cell? ⟨gb191, 1, none⟩ = some (.string (⟨#[]⟩ : ByteArray)) := (blk_cell BK191.out 1).trans rfl
       have hcz15_2 : w11.cell? ⟨gb191, 2, none⟩ = some (.int .i64 0) := (blk_cell BK191.out 2).trans rfl
       have hcz15_3 : w11.cell? ⟨gb191, 3, none⟩ = some (.int .i64 0) := (blk_cell BK191.out 3).trans rfl
       have hcz15_4 : w11.cell? ⟨gb191, 4, none⟩ = some (.int .i64 0) := (blk_cell BK191.out 4).trans rfl
       have hcz15_5 : w11.cell? ⟨gb191, 5, none⟩ = some (.string (⟨#[]⟩ : ByteArray)) := (blk_cell BK191.out 5).trans rfl
       have hfz15_0 := blk_frozen BK191.out 0
       have hfz15_1 := blk_frozen BK191.out 1
       have hfz15_2 := blk_frozen BK191.out 2
       have hfz15_3 := blk_frozen BK191.out 3
       have hfz15_4 := blk_frozen BK191.out 4
       have hfz15_5 := blk_frozen BK191.out 5
       go_wp2
       go_meet
       case rel => exact ⟨_, (true), (by first | rfl | (simp; done) | (simp [*]; done)), H', ⟨by first | omega | exact Nat.le_refl _⟩, ⟨by (with_reducible repeat (first | refine blk_drewN ?_ _ | refine blk_drew ?_ | refine blk_alloc ?_ _)); refine blk_put (cs := #[.int .u8 ((rd_T159 l0 (ji3)).f0), .string ((rd_T159 l0 (ji3)).f1), .int .i64 ((rd_T159 l0 (ji3)).f2), .int .i64 ((rd_T159 l0 (ji3)).f3), .int .i64 ((rd_T159 l0 (ji3)).f4), .string (⟨#[]⟩ : ByteArray)]) ?_ 5 _ rfl; (with_reducible repeat (first | refine blk_drewN ?_ _ | refine blk_drew ?_ | refine blk_alloc ?_ _)); refine blk_put (cs := #[.int .u8 ((rd_T159 l0 (ji3)).f0), .string ((rd_T159 l0 (ji3)).f1), .int .i64 ((rd_T159 l0 (ji3)).f2), .int .i64 ((rd_T159 l0 (ji3)).f3), .int .i64 0, .string (⟨#[]⟩ : ByteArray)]) ?_ 4 _ rfl; (with_reducible repeat (first | refine blk_drewN ?_ _ | refine blk_drew ?_ | refine blk_alloc ?_ _)); refine blk_put (cs := #[.int .u8 ((rd_T159 l0 (ji3)).f0), .string ((rd_T159 l0 (ji3)).f1), .int .i64 ((rd_T159 l0 (ji3)).f2), .int .i64 0, .int .i64 0, .string (⟨#[]⟩ : ByteArray)]) ?_ 3 _ rfl; (with_reducible repeat (first | refine blk_drewN ?_ _ | refine blk_drew ?_ | refine blk_alloc ?_ _)); refine blk_put (cs := #[.int .u8 ((rd_T159 l0 (ji3)).f0), .string ((rd_T159 l0 (ji3)).f1), .int .i64 0, .int .i64 0, .int .i64 0, .string (⟨#[]⟩ : ByteArray)]) ?_ 2 _ rfl; (with_reducible repeat (first | refine blk_drewN ?_ _ | refine blk_drew ?_ | refine blk_alloc ?_ _)); refine blk_put (cs := #[.int .u8 ((rd_T159 l0 (ji3)).f0), .string (⟨#[]⟩ : ByteArray), .int .i64 0, .int .i64 0, .int .i64 0, .string (⟨#[]⟩ : ByteArray)]) ?_ 1 _ rfl; (with_reducible repeat (first | refine blk_drewN ?_ _ | refine blk_drew ?_ | refine blk_alloc ?_ _)); refine blk_put (cs := #[.int .u8 0, .string (⟨#[]⟩ : ByteArray), .int .i64 0, .int .i64 0, .int .i64 0, .string (⟨#[]⟩ : ByteArray)]) ?_ 0 _ rfl; (with_reducible repeat (first | refine blk_drewN ?_ _ | refine blk_drew ?_ | refine blk_alloc ?_ _)); exact BK191.out⟩, ⟨by repeat (first | (with_reducible first | exact HB.out | apply below_alloc | apply pw_below_drewN | apply below_drew1 | refine below_set ?_ GE191.out) | exact HB.out)⟩⟩
      ·rw [if_neg c14] at H
       have c14b0 : (a1 == 108) = false := beq_eq_false_iff_ne.mpr c14
       have c14b1 : (a1 != 108) = true := bne_iff_ne.mpr c14
       by_cases c16 : ((rd_T159 l0 (ji3)).f0) = 108
       ·rw [if_pos c16] at H
        have c16b0 : (((rd_T159 l0 (ji3)).f0) == 108) = true := beq_iff_eq.mpr c16
        have c16b1 : (((rd_T159 l0 (ji3)).f0) != 108) = false := bne_eq_false_iff_eq.mpr c16
        clear c16
        by_cases c17 : a1 = 105
        ·rw [if_pos c17] at H
         have c17b0 : (a1 == 105) = true := beq_iff_eq.mpr c17
         have c17b1 : (a1 != 105) = false := bne_eq_false_iff_eq.mpr c17
         clear c17
         have H' := Aside0.mk H
         clear H
         have hcz18_0 : w11.cell? ⟨gb191, 0, none⟩ = some (.int .u8 0) := (blk_cell BK191.out 0).trans rfl
         have hcz18_1 : w11.cell? ⟨gb191, 1, none⟩ = some (.string (⟨#[]⟩ : ByteArray)) := (blk_cell BK191.out 1).trans rfl
         have hcz18_2 : w11.cell? ⟨gb191, 2, none⟩ = some (.int .i64 0) := (blk_cell BK191.out 2).trans rfl
         have hcz18_3 : w11.cell? ⟨gb191, 3, none⟩ = some (.int .i64 0) := (blk_cell BK191.out 3).trans rfl
         have hcz18_4 : w11.cell? ⟨gb191, 4, none⟩ = some (.int .i64 0) := (blk_cell BK191.out 4).trans rfl
         have hcz18_5 : w11.cell? ⟨gb191, 5, none⟩ = some (.string (⟨#[]⟩ : ByteArray)) := (blk_cell BK191.out 5).trans rfl
         have hfz18_0 := blk_frozen BK191.out 0
         have hfz18_1 := blk_frozen BK191.out 1
         have hfz18_2 := blk_frozen BK191.out 2
         have hfz18_3 := blk_frozen BK191.out 3
         have hfz18_4 := blk_frozen BK191.out 4
         have hfz18_5 := blk_frozen BK191.out 5
         go_wp2
         go_meet
         case rel => exact ⟨_, (true), (by first | rfl | (simp; done) | (simp [*]; done)), H', ⟨by first | omega | exact Nat.le_refl _⟩, ⟨by (with_reducible repeat (first | refine blk_drewN ?_ _ | refine blk_drew ?_ | refine blk_alloc ?_ _)); refine blk_put (cs := #[.int .u8 ((rd_T159 l0 (ji3)).f0), .string ((rd_T159 l0 (ji3)).f1), .int .i64 ((rd_T159 l0 (ji3)).f2), .int .i64 ((rd_T159 l0 (ji3)).f3), .int .i64 ((rd_T159 l0 (ji3)).f4), .string (⟨#[]⟩ : ByteArray)]) ?_ 5 _ rfl; (with_reducible repeat (first | refine blk_drewN ?_ _ | refine blk_drew ?_ | refine blk_alloc ?_ _)); refine blk_put (cs := #[.int .u8 ((rd_T159 l0 (ji3)).f0), .string ((rd_T159 l0 (ji3)).f1), .int .i64 ((rd_T159 l0 (ji3)).f2), .int .i64 ((rd_T159 l0 (ji3)).f3), .int .i64 0, .string (⟨#[]⟩ : ByteArray)]) ?_ 4 _ rfl; (with_reducible repeat (first | refine blk_drewN ?_ _ | refine blk_drew ?_ | refine blk_alloc ?_ _)); refine blk_put (cs := #[.int .u8 ((rd_T159 l0 (ji3)).f0), .string ((rd_T159 l0 (ji3)).f1), .int .i64 ((rd_T159 l0 (ji3)).f2), .int .i64 0, .int .i64 0, .string (⟨#[]⟩ : ByteArray)]) ?_ 3 _ rfl; (with_reducible repeat (first | refine blk_drewN ?_ _ | refine blk_drew ?_ | refine blk_alloc ?_ _)); refine blk_put (cs := #[.int .u8 ((rd_T159 l0 (ji3)).f0), .string ((rd_T159 l0 (ji3)).f1), .int .i64 0, .int .i64 0, .int .i64 0, .string (⟨#[]⟩ : ByteArray)]) ?_ 2 _ rfl; (with_reducible repeat (first | refine blk_drewN ?_ _ | refine blk_drew ?_ | refine blk_alloc ?_ _)); refine blk_put (cs := #[.int .u8 ((rd_T159 l0 (ji3)).f0), .string (⟨#[]⟩ : ByteArray), .int .i64 0, .int .i64 0, .int .i64 0, .string (⟨#[]⟩ : ByteArray)]) ?_ 1 _ rfl; (with_reducible repeat (first | refine blk_drewN ?_ _ | refine blk_drew ?_ | refine blk_alloc ?_ _)); refine blk_put (cs := #[.int .u8 0, .string (⟨#[]⟩ : ByteArray), .int .i64 0, .int .i64 0, .int .i64 0, .string (⟨#[]⟩ : ByteArray)]) ?_ 0 _ rfl; (with_reducible repeat (first | refine blk_drewN ?_ _ | refine blk_drew ?_ | refine blk_alloc ?_ _)); exact BK191.out⟩, ⟨by repeat (first | (with_reducible first | exact HB.out | apply below_alloc | apply pw_below_drewN | apply below_drew1 | refine below_set ?_ GE191.out) | exact HB.out)⟩⟩
        ·rw [if_neg c17] at H
         have c17b0 : (a1 == 105) = false := beq_eq_false_iff_ne.mpr c17
         have c17b1 : (a1 != 105) = true := bne_iff_ne.mpr c17
         by_cases c19 : ((rd_T159 l0 (ji3)).f0) = 116
         ·rw [if_pos c19] at H
          have c19b0 : (((rd_T159 l0 (ji3)).f0) == 116) = true := beq_iff_eq.mpr c19
          have c19b1 : (((rd_T159 l0 (ji3)).f0) != 116) = false := bne_eq_false_iff_eq.mpr c19
          clear c19
          have H' := Aside0.mk H
          clear H
          have hcz20_0 : w11.cell? ⟨gb191, 0, none⟩ = some (.int .u8 0) := (blk_cell BK191.out 0).trans rfl
          have hcz20_1 : w11.cell? ⟨gb191, 1, none⟩ = some (.string (⟨#[]⟩ : ByteArray)) := (blk_cell BK191.out 1).trans rfl
          have hcz20_2 : w11.cell? ⟨gb191, 2, none⟩ = some (.int .i64 0) := (blk_cell BK191.out 2).trans rfl
          have hcz20_3 : w11.cell? ⟨gb191, 3, none⟩ = some (.int .i64 0) := (blk_cell BK191.out 3).trans rfl
          have hcz20_4 : w11.cell? ⟨gb191, 4, none⟩ = some (.int .i64 0) := (blk_cell BK191.out 4).trans rfl
          have hcz20_5 : w11.cell? ⟨gb191, 5, none⟩ = some (.string (⟨#[]⟩ : ByteArray)) := (blk_cell BK191.out 5).trans rfl
          have hfz20_0 := blk_frozen BK191.out 0
          have hfz20_1 := blk_frozen BK191.out 1
          have hfz20_2 := blk_frozen BK191.out 2
          have hfz20_3 := blk_frozen BK191.out 3
          have hfz20_4 := blk_frozen BK191.out 4
          have hfz20_5 := blk_frozen BK191.out 5
          go_wp2
          go_meet
          case rel => exact ⟨_, ((a1 == 114)), (by first | rfl | (simp; done) | (simp [*]; done)), H', ⟨by first | omega | exact Nat.le_refl _⟩, ⟨by (with_reducible repeat (first | refine blk_drewN ?_ _ | refine blk_drew ?_ | refine blk_alloc ?_ _)); refine blk_put (cs := #[.int .u8 ((rd_T159 l0 (ji3)).f0), .string ((rd_T159 l0 (ji3)).f1), .int .i64 ((rd_T159 l0 (ji3)).f2), .int .i64 ((rd_T159 l0 (ji3)).f3), .int .i64 ((rd_T159 l0 (ji3)).f4), .string (⟨#[]⟩ : ByteArray)]) ?_ 5 _ rfl; (with_reducible repeat (first | refine blk_drewN ?_ _ | refine blk_drew ?_ | refine blk_alloc ?_ _)); refine blk_put (cs := #[.int .u8 ((rd_T159 l0 (ji3)).f0), .string ((rd_T159 l0 (ji3)).f1), .int .i64 ((rd_T159 l0 (ji3)).f2), .int .i64 ((rd_T159 l0 (ji3)).f3), .int .i64 0, .string (⟨#[]⟩ : ByteArray)]) ?_ 4 _ rfl; (with_reducible repeat (first | refine blk_drewN ?_ _ | refine blk_drew ?_ | refine blk_alloc ?_ _)); refine blk_put (cs := #[.int .u8 ((rd_T159 l0 (ji3)).f0), .string ((rd_T159 l0 (ji3)).f1), .int .i64 ((rd_T159 l0 (ji3)).f2), .int .i64 0, .int .i64 0, .string (⟨#[]⟩ : ByteArray)]) ?_ 3 _ rfl; (with_reducible repeat (first | refine blk_drewN ?_ _ | refine blk_drew ?_ | refine blk_alloc ?_ _)); refine blk_put (cs := #[.int .u8 ((rd_T159 l0 (ji3)).f0), .string ((rd_T159 l0 (ji3)).f1), .int .i64 0, .int .i64 0, .int .i64 0, .string (⟨#[]⟩ : ByteArray)]) ?_ 2 _ rfl; (with_reducible repeat (first | refine blk_drewN ?_ _ | refine blk_drew ?_ | refine blk_alloc ?_ _)); refine blk_put (cs := #[.int .u8 ((rd_T159 l0 (ji3)).f0), .string (⟨#[]⟩ : ByteArray), .int .i64 0, .int .i64 0, .int .i64 0, .string (⟨#[]⟩ : ByteArray)]) ?_ 1 _ rfl; (with_reducible repeat (first | refine blk_drewN ?_ _ | refine blk_drew ?_ | refine blk_alloc ?_ _)); refine blk_put (cs := #[.int .u8 0, .string (⟨#[]⟩ : ByteArray), .int .i64 0, .int .i64 0, .int .i64 0, .string (⟨#[]⟩ : ByteArray)]) ?_ 0 _ rfl; (with_reducible repeat (first | refine blk_drewN ?_ _ | refine blk_drew ?_ | refine blk_alloc ?_ _)); exact BK191.out⟩, ⟨by repeat (first | (with_reducible first | exact HB.out | apply below_alloc | apply pw_below_drewN | apply below_drew1 | refine below_set ?_ GE191.out) | exact HB.out)⟩⟩
         ·rw [if_neg c19] at H
          have c19b0 : (((rd_T159 l0 (ji3)).f0) == 116) = false := beq_eq_false_iff_ne.mpr c19
          have c19b1 : (((rd_T159 l0 (ji3)).f0) != 116) = true := bne_iff_ne.mpr c19
          have H' := Aside0.mk H
          clear H
          have hcz21_0 : w11.cell? ⟨gb191, 0, none⟩ = some (.int .u8 0) := (blk_cell BK191.out 0).trans rfl
          have hcz21_1 : w11.cell? ⟨gb191, 1, none⟩ = some (.string (⟨#[]⟩ : ByteArray)) := (blk_cell BK191.out 1).trans rfl
          have hcz21_2 : w11.cell? ⟨gb191, 2, none⟩ = some (.int .i64 0) := (blk_cell BK191.out 2).trans rfl
          have hcz21_3 : w11.cell? ⟨gb191, 3, none⟩ = some (.int .i64 0) := (blk_cell BK191.out 3).trans rfl
          have hcz21_4 : w11.cell? ⟨gb191, 4, none⟩ = some (.int .i64 0) := (blk_cell BK191.out 4).trans rfl
          have hcz21_5 : w11.cell? ⟨gb191, 5, none⟩ = some (.string (⟨#[]⟩ : ByteArray)) := (blk_cell BK191.out 5).trans rfl
          have hfz21_0 := blk_frozen BK191.out 0
          have hfz21_1 := blk_frozen BK191.out 1
          have hfz21_2 := blk_frozen BK191.out 2
          have hfz21_3 := blk_frozen BK191.out 3
          have hfz21_4 := blk_frozen BK191.out 4
          have hfz21_5 := blk_frozen BK191.out 5
          go_wp2
          go_meet
          case rel => exact ⟨_, (false), (by first | rfl | (simp; done) | (simp [*]; done)), H', ⟨by first | omega | exact Nat.le_refl _⟩, ⟨by (with_reducible repeat (first | refine blk_drewN ?_ _ | refine blk_drew ?_ | refine blk_alloc ?_ _)); refine blk_put (cs := #[.int .u8 ((rd_T159 l0 (ji3)).f0), .string ((rd_T159 l0 (ji3)).f1), .int .i64 ((rd_T159 l0 (ji3)).f2), .int .i64 ((rd_T159 l0 (ji3)).f3), .int .i64 ((rd_T159 l0 (ji3)).f4), .string (⟨#[]⟩ : ByteArray)]) ?_ 5 _ rfl; (with_reducible repeat (first | refine blk_drewN ?_ _ | refine blk_drew ?_ | refine blk_alloc ?_ _)); refine blk_put (cs := #[.int .u8 ((rd_T159 l0 (ji3)).f0), .string ((rd_T159 l0 (ji3)).f1), .int .i64 ((rd_T159 l0 (ji3)).f2), .int .i64 ((rd_T159 l0 (ji3)).f3), .int .i64 0, .string (⟨#[]⟩ : ByteArray)]) ?_ 4 _ rfl; (with_reducible repeat (first | refine blk_drewN ?_ _ | refine blk_drew ?_ | refine blk_alloc ?_ _)); refine blk_put (cs := #[.int .u8 ((rd_T159 l0 (ji3)).f0), .string ((rd_T159 l0 (ji3)).f1), .int .i64 ((rd_T159 l0 (ji3)).f2), .int .i64 0, .int .i64 0, .string (⟨#[]⟩ : ByteArray)]) ?_ 3 _ rfl; (with_reducible repeat (first | refine blk_drewN ?_ _ | refine blk_drew ?_ | refine blk_alloc ?_ _)); refine blk_put (cs := #[.int .u8 ((rd_T159 l0 (ji3)).f0), .string ((rd_T159 l0 (ji3)).f1), .int .i64 0, .int .i64 0, .int .i64 0, .string (⟨#[]⟩ : ByteArray)]) ?_ 2 _ rfl; (with_reducible repeat (first | refine blk_drewN ?_ _ | refine blk_drew ?_ | refine blk_alloc ?_ _)); refine blk_put (cs := #[.int .u8 ((rd_T159 l0 (ji3)).f0), .string (⟨#[]⟩ : ByteArray), .int .i64 0, .int .i64 0, .int .i64 0, .string (⟨#[]⟩ : ByteArray)]) ?_ 1 _ rfl; (with_reducible repeat (first | refine blk_drewN ?_ _ | refine blk_drew ?_ | refine blk_alloc ?_ _)); refine blk_put (cs := #[.int .u8 0, .string (⟨#[]⟩ : ByteArray), .int .i64 0, .int .i64 0, .int .i64 0, .string (⟨#[]⟩ : ByteArray)]) ?_ 0 _ rfl; (with_reducible repeat (first | refine blk_drewN ?_ _ | refine blk_drew ?_ | refine blk_alloc ?_ _)); exact BK191.out⟩, ⟨by repeat (first | (with_reducible first | exact HB.out | apply below_alloc | apply pw_below_drewN | apply below_drew1 | refine below_set ?_ GE191.out) | exact HB.out)⟩⟩
       ·rw [if_neg c16] at H
        have c16b0 : (((rd_T159 l0 (ji3)).f0) == 108) = false := beq_eq_false_iff_ne.mpr c16
        have c16b1 : (((rd_T159 l0 (ji3)).f0) != 108) = true := bne_iff_ne.mpr c16
        by_cases c22 : ((rd_T159 l0 (ji3)).f0) = 116
        ·rw [if_pos c22] at H
         have c22b0 : (((rd_T159 l0 (ji3)).f0) == 116) = true := beq_iff_eq.mpr c22
         have c22b1 : (((rd_T159 l0 (ji3)).f0) != 116) = false := bne_eq_false_iff_eq.mpr c22
         clear c22
         have H' := Aside0.mk H
         clear H
         have hcz23_0 : w11.cell? ⟨gb191, 0, none⟩ = some (.int .u8 0) := (blk_cell BK191.out 0).trans rfl
         have hcz23_1 : w11.cell? ⟨gb191, 1, none⟩ = some (.string (⟨#[]⟩ : ByteArray)) := (blk_cell BK191.out 1).trans rfl
         have hcz23_2 : w11.cell? ⟨gb191, 2, none⟩ = some (.int .i64 0) := (blk_cell BK191.out 2).trans rfl
         have hcz23_3 : w11.cell? ⟨gb191, 3, none⟩ = some (.int .i64 0) := (blk_cell BK191.out 3).trans rfl
         have hcz23_4 : w11.cell? ⟨gb191, 4, none⟩ = some (.int .i64 0) := (blk_cell BK191.out 4).trans rfl
         have hcz23_5 : w11.cell? ⟨gb191, 5, none⟩ = some (.string (⟨#[]⟩ : ByteArray)) := (blk_cell BK191.out 5).trans rfl
         have hfz23_0 := blk_frozen BK191.out 0
         have hfz23_1 := blk_frozen BK191.out 1
         have hfz23_2 := blk_frozen BK191.out 2
         have hfz23_3 := blk_frozen BK191.out 3
         have hfz23_4 := blk_frozen BK191.out 4
         have hfz23_5 := blk_frozen BK191.out 5
         go_wp2
         go_meet
         case rel => exact ⟨_, ((a1 == 114)), (by first | rfl | (simp; done) | (simp [*]; done)), H', ⟨by first | omega | exact Nat.le_refl _⟩, ⟨by (with_reducible repeat (first | refine blk_drewN ?_ _ | refine blk_drew ?_ | refine blk_alloc ?_ _)); refine blk_put (cs := #[.int .u8 ((rd_T159 l0 (ji3)).f0), .string ((rd_T159 l0 (ji3)).f1), .int .i64 ((rd_T159 l0 (ji3)).f2), .int .i64 ((rd_T159 l0 (ji3)).f3), .int .i64 ((rd_T159 l0 (ji3)).f4), .string (⟨#[]⟩ : ByteArray)]) ?_ 5 _ rfl; (with_reducible repeat (first | refine blk_drewN ?_ _ | refine blk_drew ?_ | refine blk_alloc ?_ _)); refine blk_put (cs := #[.int .u8 ((rd_T159 l0 (ji3)).f0), .string ((rd_T159 l0 (ji3)).f1), .int .i64 ((rd_T159 l0 (ji3)).f2), .int .i64 ((rd_T159 l0 (ji3)).f3), .int .i64 0, .string (⟨#[]⟩ : ByteArray)]) ?_ 4 _ rfl; (with_reducible repeat (first | refine blk_drewN ?_ _ | refine blk_drew ?_ | refine blk_alloc ?_ _)); refine blk_put (cs := #[.int .u8 ((rd_T159 l0 (ji3)).f0), .string ((rd_T159 l0 (ji3)).f1), .int .i64 ((rd_T159 l0 (ji3)).f2), .int .i64 0, .int .i64 0, .string (⟨#[]⟩ : ByteArray)]) ?_ 3 _ rfl; (with_reducible repeat (first | refine blk_drewN ?_ _ | refine blk_drew ?_ | refine blk_alloc ?_ _)); refine blk_put (cs := #[.int .u8 ((rd_T159 l0 (ji3)).f0), .string ((rd_T159 l0 (ji3)).f1), .int .i64 0, .int .i64 0, .int .i64 0, .string (⟨#[]⟩ : ByteArray)]) ?_ 2 _ rfl; (with_reducible repeat (first | refine blk_drewN ?_ _ | refine blk_drew ?_ | refine blk_alloc ?_ _)); refine blk_put (cs := #[.int .u8 ((rd_T159 l0 (ji3)).f0), .string (⟨#[]⟩ : ByteArray), .int .i64 0, .int .i64 0, .int .i64 0, .string (⟨#[]⟩ : ByteArray)]) ?_ 1 _ rfl; (with_reducible repeat (first | refine blk_drewN ?_ _ | refine blk_drew ?_ | refine blk_alloc ?_ _)); refine blk_put (cs := #[.int .u8 0, .string (⟨#[]⟩ : ByteArray), .int .i64 0, .int .i64 0, .int .i64 0, .string (⟨#[]⟩ : ByteArray)]) ?_ 0 _ rfl; (with_reducible repeat (first | refine blk_drewN ?_ _ | refine blk_drew ?_ | refine blk_alloc ?_ _)); exact BK191.out⟩, ⟨by repeat (first | (with_reducible first | exact HB.out | apply below_alloc | apply pw_below_drewN | apply below_drew1 | refine below_set ?_ GE191.out) | exact HB.out)⟩⟩
        ·rw [if_neg c22] at H
         have c22b0 : (((rd_T159 l0 (ji3)).f0) == 116) = false := beq_eq_false_iff_ne.mpr c22
         have c22b1 : (((rd_T159 l0 (ji3)).f0) != 116) = true := bne_iff_ne.mpr c22
         have H' := Aside0.mk H
         clear H
         have hcz24_0 : w11.cell? ⟨gb191, 0, none⟩ = some (.int .u8 0) := (blk_cell BK191.out 0).trans rfl
         have hcz24_1 : w11.cell? ⟨gb191, 1, none⟩ = some (.string (⟨#[]⟩ : ByteArray)) := (blk_cell BK191.out 1).trans rfl
         have hcz24_2 : w11.cell? ⟨gb191, 2, none⟩ = some (.int .i64 0) := (blk_cell BK191.out 2).trans rfl
         have hcz24_3 : w11.cell? ⟨gb191, 3, none⟩ = some (.int .i64 0) := (blk_cell BK191.out 3).trans rfl
         have hcz24_4 : w11.cell? ⟨gb191, 4, none⟩ = some (.int .i64 0) := (blk_cell BK191.out 4).trans rfl
         have hcz24_5 : w11.cell? ⟨gb191, 5, none⟩ = some (.string (⟨#[]⟩ : ByteArray)) := (blk_cell BK191.out 5).trans rfl
         have hfz24_0 := blk_frozen BK191.out 0
         have hfz24_1 := blk_frozen BK191.out 1
         have hfz24_2 := blk_frozen BK191.out 2
         have hfz24_3 := blk_frozen BK191.out 3
         have hfz24_4 := blk_frozen BK191.out 4
         have hfz24_5 := blk_frozen BK191.out 5
         go_wp2
         go_meet
         case rel => exact ⟨_, (false), (by first | rfl | (simp; done) | (simp [*]; done)), H', ⟨by first | omega | exact Nat.le_refl _⟩, ⟨by (with_reducible repeat (first | refine blk_drewN ?_ _ | refine blk_drew ?_ | refine blk_alloc ?_ _)); refine blk_put (cs := #[.int .u8 ((rd_T159 l0 (ji3)).f0), .string ((rd_T159 l0 (ji3)).f1), .int .i64 ((rd_T159 l0 (ji3)).f2), .int .i64 ((rd_T159 l0 (ji3)).f3), .int .i64 ((rd_T159 l0 (ji3)).f4), .string (⟨#[]⟩ : ByteArray)]) ?_ 5 _ rfl; (with_reducible repeat (first | refine blk_drewN ?_ _ | refine blk_drew ?_ | refine blk_alloc ?_ _)); refine blk_put (cs := #[.int .u8 ((rd_T159 l0 (ji3)).f0), .string ((rd_T159 l0 (ji3)).f1), .int .i64 ((rd_T159 l0 (ji3)).f2), .int .i64 ((rd_T159 l0 (ji3)).f3), .int .i64 0, .string (⟨#[]⟩ : ByteArray)]) ?_ 4 _ rfl; (with_reducible repeat (first | refine blk_drewN ?_ _ | refine blk_drew ?_ | refine blk_alloc ?_ _)); refine blk_put (cs := #[.int .u8 ((rd_T159 l0 (ji3)).f0), .string ((rd_T159 l0 (ji3)).f1), .int .i64 ((rd_T159 l0 (ji3)).f2), .int .i64 0, .int .i64 0, .string (⟨#[]⟩ : ByteArray)]) ?_ 3 _ rfl; (with_reducible repeat (first | refine blk_drewN ?_ _ | refine blk_drew ?_ | refine blk_alloc ?_ _)); refine blk_put (cs := #[.int .u8 ((rd_T159 l0 (ji3)).f0), .string ((rd_T159 l0 (ji3)).f1), .int .i64 0, .int .i64 0, .int .i64 0, .string (⟨#[]⟩ : ByteArray)]) ?_ 2 _ rfl; (with_reducible repeat (first | refine blk_drewN ?_ _ | refine blk_drew ?_ | refine blk_alloc ?_ _)); refine blk_put (cs := #[.int .u8 ((rd_T159 l0 (ji3)).f0), .string (⟨#[]⟩ : ByteArray), .int .i64 0, .int .i64 0, .int .i64 0, .string (⟨#[]⟩ : ByteArray)]) ?_ 1 _ rfl; (with_reducible repeat (first | refine blk_drewN ?_ _ | refine blk_drew ?_ | refine blk_alloc ?_ _)); refine blk_put (cs := #[.int .u8 0, .string (⟨#[]⟩ : ByteArray), .int .i64 0, .int .i64 0, .int .i64 0, .string (⟨#[]⟩ : ByteArray)]) ?_ 0 _ rfl; (with_reducible repeat (first | refine blk_drewN ?_ _ | refine blk_drew ?_ | refine blk_alloc ?_ _)); exact BK191.out⟩, ⟨by repeat (first | (with_reducible first | exact HB.out | apply below_alloc | apply pw_below_drewN | apply below_drew1 | refine below_set ?_ GE191.out) | exact HB.out)⟩⟩
     ·rw [if_neg c13] at H
      have c13b0 : (((rd_T159 l0 (ji3)).f0) == 105) = false := beq_eq_false_iff_ne.mpr c13
      have c13b1 : (((rd_T159 l0 (ji3)).f0) != 105) = true := bne_iff_ne.mpr c13
      (first | rw [c13b0] | (simp only [i64_w, i32_w]; rw [c13b0]) | skip)
      by_cases c25 : ((rd_T159 l0 (ji3)).f0) = 108
      ·rw [if_pos c25] at H
       have c25b0 : (((rd_T159 l0 (ji3)).f0) == 108) = true := beq_iff_eq.mpr c25
       have c25b1 : (((rd_T159 l0 (ji3)).f0) != 108) = false := bne_eq_false_iff_eq.mpr c25
       clear c25
       by_cases c26 : a1 = 105
       ·rw [if_pos c26] at H
        have c26b0 : (a1 == 105) = true := beq_iff_eq.mpr c26
        have c26b1 : (a1 != 105) = false := bne_eq_false_iff_eq.mpr c26
        clear c26
        have H' := Aside0.mk H
        clear H
        have hcz27_0 : w11.cell? ⟨gb191, 0, none⟩ = some (.int .u8 0) := (blk_cell BK191.out 0).trans rfl
        have hcz27_1 : w11.cell? ⟨gb191, 1, none⟩ = some (.string (⟨#[]⟩ : ByteArray)) := (blk_cell BK191.out 1).trans rfl
        have hcz27_2 : w11.cell? ⟨gb191, 2, none⟩ = some (.int .i64 0) := (blk_cell BK191.out 2).trans rfl
        have hcz27_3 : w11.cell? ⟨gb191, 3, none⟩ = some (.int .i64 0) := (blk_cell BK191.out 3).trans rfl
        have hcz27_4 : w11.cell? ⟨gb191, 4, none⟩ = some (.int .i64 0) := (blk_cell BK191.out 4).trans rfl
        have hcz27_5 : w11.cell? ⟨gb191, 5, none⟩ = some (.string (⟨#[]⟩ : ByteArray)) := (blk_cell BK191.out 5).trans rfl
        have hfz27_0 := blk_frozen BK191.out 0
        have hfz27_1 := blk_frozen BK191.out 1
        have hfz27_2 := blk_frozen BK191.out 2
        have hfz27_3 := blk_frozen BK191.out 3
        have hfz27_4 := blk_frozen BK191.out 4
        have hfz27_5 := blk_frozen BK191.out 5
        go_wp2
        go_meet
        case rel => exact ⟨_, (true), (by first | rfl | (simp; done) | (simp [*]; done)), H', ⟨by first | omega | exact Nat.le_refl _⟩, ⟨by (with_reducible repeat (first | refine blk_drewN ?_ _ | refine blk_drew ?_ | refine blk_alloc ?_ _)); refine blk_put (cs := #[.int .u8 ((rd_T159 l0 (ji3)).f0), .string ((rd_T159 l0 (ji3)).f1), .int .i64 ((rd_T159 l0 (ji3)).f2), .int .i64 ((rd_T159 l0 (ji3)).f3), .int .i64 ((rd_T159 l0 (ji3)).f4), .string (⟨#[]⟩ : ByteArray)]) ?_ 5 _ rfl; (with_reducible repeat (first | refine blk_drewN ?_ _ | refine blk_drew ?_ | refine blk_alloc ?_ _)); refine blk_put (cs := #[.int .u8 ((rd_T159 l0 (ji3)).f0), .string ((rd_T159 l0 (ji3)).f1), .int .i64 ((rd_T159 l0 (ji3)).f2), .int .i64 ((rd_T159 l0 (ji3)).f3), .int .i64 0, .string (⟨#[]⟩ : ByteArray)]) ?_ 4 _ rfl; (with_reducible repeat (first | refine blk_drewN ?_ _ | refine blk_drew ?_ | refine blk_alloc ?_ _)); refine blk_put (cs := #[.int .u8 ((rd_T159 l0 (ji3)).f0), .string ((rd_T159 l0 (ji3)).f1), .int .i64 ((rd_T159 l0 (ji3)).f2), .int .i64 0, .int .i64 0, .string (⟨#[]⟩ : ByteArray)]) ?_ 3 _ rfl; (with_reducible repeat (first | refine blk_drewN ?_ _ | refine blk_drew ?_ | refine blk_alloc ?_ _)); refine blk_put (cs := #[.int .u8 ((rd_T159 l0 (ji3)).f0), .string ((rd_T159 l0 (ji3)).f1), .int .i64 0, .int .i64 0, .int .i64 0, .string (⟨#[]⟩ : ByteArray)]) ?_ 2 _ rfl; (with_reducible repeat (first | refine blk_drewN ?_ _ | refine blk_drew ?_ | refine blk_alloc ?_ _)); refine blk_put (cs := #[.int .u8 ((rd_T159 l0 (ji3)).f0), .string (⟨#[]⟩ : ByteArray), .int .i64 0, .int .i64 0, .int .i64 0, .string (⟨#[]⟩ : ByteArray)]) ?_ 1 _ rfl; (with_reducible repeat (first | refine blk_drewN ?_ _ | refine blk_drew ?_ | refine blk_alloc ?_ _)); refine blk_put (cs := #[.int .u8 0, .string (⟨#[]⟩ : ByteArray), .int .i64 0, .int .i64 0, .int .i64 0, .string (⟨#[]⟩ : ByteArray)]) ?_ 0 _ rfl; (with_reducible repeat (first | refine blk_drewN ?_ _ | refine blk_drew ?_ | refine blk_alloc ?_ _)); exact BK191.out⟩, ⟨by repeat (first | (with_reducible first | exact HB.out | apply below_alloc | apply pw_below_drewN | apply below_drew1 | refine below_set ?_ GE191.out) | exact HB.out)⟩⟩
       ·rw [if_neg c26] at H
        have c26b0 : (a1 == 105) = false := beq_eq_false_iff_ne.mpr c26
        have c26b1 : (a1 != 105) = true := bne_iff_ne.mpr c26
        by_cases c28 : ((rd_T159 l0 (ji3)).f0) = 116
        ·rw [if_pos c28] at H
         have c28b0 : (((rd_T159 l0 (ji3)).f0) == 116) = true := beq_iff_eq.mpr c28
         have c28b1 : (((rd_T159 l0 (ji3)).f0) != 116) = false := bne_eq_false_iff_eq.mpr c28
         clear c28
         have H' := Aside0.mk H
         clear H
         have hcz29_0 : w11.cell? ⟨gb191, 0, none⟩ = some (.int .u8 0) := (blk_cell BK191.out 0).trans rfl
         have hcz29_1 : w11.cell? ⟨gb191, 1, none⟩ = some (.string (⟨#[]⟩ : ByteArray)) := (blk_cell BK191.out 1).trans rfl
         have hcz29_2 : w11.cell? ⟨gb191, 2, none⟩ = some (.int .i64 0) := (blk_cell BK191.out 2).trans rfl
         have hcz29_3 : w11.cell? ⟨gb191, 3, none⟩ = some (.int .i64 0) := (blk_cell BK191.out 3).trans rfl
         have hcz29_4 : w11.cell? ⟨gb191, 4, none⟩ = some (.int .i64 0) := (blk_cell BK191.out 4).trans rfl
         have hcz29_5 : w11.cell? ⟨gb191, 5, none⟩ = some (.string (⟨#[]⟩ : ByteArray)) := (blk_cell BK191.out 5).trans rfl
         have hfz29_0 := blk_frozen BK191.out 0
         have hfz29_1 := blk_frozen BK191.out 1
         have hfz29_2 := blk_frozen BK191.out 2
         have hfz29_3 := blk_frozen BK191.out 3
         have hfz29_4 := blk_frozen BK191.out 4
         have hfz29_5 := blk_frozen BK191.out 5
         go_wp2
         go_meet
         case rel => exact ⟨_, ((a1 == 114)), (by first | rfl | (simp; done) | (simp [*]; done)), H', ⟨by first | omega | exact Nat.le_refl _⟩, ⟨by (with_reducible repeat (first | refine blk_drewN ?_ _ | refine blk_drew ?_ | refine blk_alloc ?_ _)); refine blk_put (cs := #[.int .u8 ((rd_T159 l0 (ji3)).f0), .string ((rd_T159 l0 (ji3)).f1), .int .i64 ((rd_T159 l0 (ji3)).f2), .int .i64 ((rd_T159 l0 (ji3)).f3), .int .i64 ((rd_T159 l0 (ji3)).f4), .string (⟨#[]⟩ : ByteArray)]) ?_ 5 _ rfl; (with_reducible repeat (first | refine blk_drewN ?_ _ | refine blk_drew ?_ | refine blk_alloc ?_ _)); refine blk_put (cs := #[.int .u8 ((rd_T159 l0 (ji3)).f0), .string ((rd_T159 l0 (ji3)).f1), .int .i64 ((rd_T159 l0 (ji3)).f2), .int .i64 ((rd_T159 l0 (ji3)).f3), .int .i64 0, .string (⟨#[]⟩ : ByteArray)]) ?_ 4 _ rfl; (with_reducible repeat (first | refine blk_drewN ?_ _ | refine blk_drew ?_ | refine blk_alloc ?_ _)); refine blk_put (cs := #[.int .u8 ((rd_T159 l0 (ji3)).f0), .string ((rd_T159 l0 (ji3)).f1), .int .i64 ((rd_T159 l0 (ji3)).f2), .int .i64 0, .int .i64 0, .string (⟨#[]⟩ : ByteArray)]) ?_ 3 _ rfl; (with_reducible repeat (first | refine blk_drewN ?_ _ | refine blk_drew ?_ | refine blk_alloc ?_ _)); refine blk_put (cs := #[.int .u8 ((rd_T159 l0 (ji3)).f0), .string ((rd_T159 l0 (ji3)).f1), .int .i64 0, .int .i64 0, .int .i64 0, .string (⟨#[]⟩ : ByteArray)]) ?_ 2 _ rfl; (with_reducible repeat (first | refine blk_drewN ?_ _ | refine blk_drew ?_ | refine blk_alloc ?_ _)); refine blk_put (cs := #[.int .u8 ((rd_T159 l0 (ji3)).f0), .string (⟨#[]⟩ : ByteArray), .int .i64 0, .int .i64 0, .int .i64 0, .string (⟨#[]⟩ : ByteArray)]) ?_ 1 _ rfl; (with_reducible repeat (first | refine blk_drewN ?_ _ | refine blk_drew ?_ | refine blk_alloc ?_ _)); refine blk_put (cs := #[.int .u8 0, .string (⟨#[]⟩ : ByteArray), .int .i64 0, .int .i64 0, .int .i64 0, .string (⟨#[]⟩ : ByteArray)]) ?_ 0 _ rfl; (with_reducible repeat (first | refine blk_drewN ?_ _ | refine blk_drew ?_ | refine blk_alloc ?_ _)); exact BK191.out⟩, ⟨by repeat (first | (with_reducible first | exact HB.out | apply below_alloc | apply pw_below_drewN | apply below_drew1 | refine below_set ?_ GE191.out) | exact HB.out)⟩⟩
        ·rw [if_neg c28] at H
         have c28b0 : (((rd_T159 l0 (ji3)).f0) == 116) = false := beq_eq_false_iff_ne.mpr c28
         have c28b1 : (((rd_T159 l0 (ji3)).f0) != 116) = true := bne_iff_ne.mpr c28
         have H' := Aside0.mk H
         clear H
         have hcz30_0 : w11.cell? ⟨gb191, 0, none⟩ = some (.int .u8 0) := (blk_cell BK191.out 0).trans rfl
         have hcz30_1 : w11.cell? ⟨gb191, 1, none⟩ = some (.string (⟨#[]⟩ : ByteArray)) := (blk_cell BK191.out 1).trans rfl
         have hcz30_2 : w11.cell? ⟨gb191, 2, none⟩ = some (.int .i64 0) := (blk_cell BK191.out 2).trans rfl
         have hcz30_3 : w11.cell? ⟨gb191, 3, none⟩ = some (.int .i64 0) := (blk_cell BK191.out 3).trans rfl
         have hcz30_4 : w11.cell? ⟨gb191, 4, none⟩ = some (.int .i64 0) := (blk_cell BK191.out 4).trans rfl
         have hcz30_5 : w11.cell? ⟨gb191, 5, none⟩ = some (.string (⟨#[]⟩ : ByteArray)) := (blk_cell BK191.out 5).trans rfl
         have hfz30_0 := blk_frozen BK191.out 0
         have hfz30_1 := blk_frozen BK191.out 1
         have hfz30_2 := blk_frozen BK191.out 2
         have hfz30_3 := blk_frozen BK191.out 3
         have hfz30_4 := blk_frozen BK191.out 4
         have hfz30_5 := blk_frozen BK191.out 5
         go_wp2
         go_meet
         case rel => exact ⟨_, (false), (by first | rfl | (simp; done) | (simp [*]; done)), H', ⟨by first | omega | exact Nat.le_refl _⟩, ⟨by (with_reducible repeat (first | refine blk_drewN ?_ _ | refine blk_drew ?_ | refine blk_alloc ?_ _)); refine blk_put (cs := #[.int .u8 ((rd_T159 l0 (ji3)).f0), .string ((rd_T159 l0 (ji3)).f1), .int .i64 ((rd_T159 l0 (ji3)).f2), .int .i64 ((rd_T159 l0 (ji3)).f3), .int .i64 ((rd_T159 l0 (ji3)).f4), .string (⟨#[]⟩ : ByteArray)]) ?_ 5 _ rfl; (with_reducible repeat (first | refine blk_drewN ?_ _ | refine blk_drew ?_ | refine blk_alloc ?_ _)); refine blk_put (cs := #[.int .u8 ((rd_T159 l0 (ji3)).f0), .string ((rd_T159 l0 (ji3)).f1), .int .i64 ((rd_T159 l0 (ji3)).f2), .int .i64 ((rd_T159 l0 (ji3)).f3), .int .i64 0, .string (⟨#[]⟩ : ByteArray)]) ?_ 4 _ rfl; (with_reducible repeat (first | refine blk_drewN ?_ _ | refine blk_drew ?_ | refine blk_alloc ?_ _)); refine blk_put (cs := #[.int .u8 ((rd_T159 l0 (ji3)).f0), .string ((rd_T159 l0 (ji3)).f1), .int .i64 ((rd_T159 l0 (ji3)).f2), .int .i64 0, .int .i64 0, .string (⟨#[]⟩ : ByteArray)]) ?_ 3 _ rfl; (with_reducible repeat (first | refine blk_drewN ?_ _ | refine blk_drew ?_ | refine blk_alloc ?_ _)); refine blk_put (cs := #[.int .u8 ((rd_T159 l0 (ji3)).f0), .string ((rd_T159 l0 (ji3)).f1), .int .i64 0, .int .i64 0, .int .i64 0, .string (⟨#[]⟩ : ByteArray)]) ?_ 2 _ rfl; (with_reducible repeat (first | refine blk_drewN ?_ _ | refine blk_drew ?_ | refine blk_alloc ?_ _)); refine blk_put (cs := #[.int .u8 ((rd_T159 l0 (ji3)).f0), .string (⟨#[]⟩ : ByteArray), .int .i64 0, .int .i64 0, .int .i64 0, .string (⟨#[]⟩ : ByteArray)]) ?_ 1 _ rfl; (with_reducible repeat (first | refine blk_drewN ?_ _ | refine blk_drew ?_ | refine blk_alloc ?_ _)); refine blk_put (cs := #[.int .u8 0, .string (⟨#[]⟩ : ByteArray), .int .i64 0, .int .i64 0, .int .i64 0, .string (⟨#[]⟩ : ByteArray)]) ?_ 0 _ rfl; (with_reducible repeat (first | refine blk_drewN ?_ _ | refine blk_drew ?_ | refine blk_alloc ?_ _)); exact BK191.out⟩, ⟨by repeat (first | (with_reducible first | exact HB.out | apply below_alloc | apply pw_below_drewN | apply below_drew1 | refine below_set ?_ GE191.out) | exact HB.out)⟩⟩
      ·rw [if_neg c25] at H
       have c25b0 : (((rd_T159 l0 (ji3)).f0) == 108) = false := beq_eq_false_iff_ne.mpr c25
       have c25b1 : (((rd_T159 l0 (ji3)).f0) != 108) = true := bne_iff_ne.mpr c25
       by_cases c31 : ((rd_T159 l0 (ji3)).f0) = 116
       ·rw [if_pos c31] at H
        have c31b0 : (((rd_T159 l0 (ji3)).f0) == 116) = true := beq_iff_eq.mpr c31
        have c31b1 : (((rd_T159 l0 (ji3)).f0) != 116) = false := bne_eq_false_iff_eq.mpr c31
        clear c31
        have H' := Aside0.mk H
        clear H
        have hcz32_0 : w11.cell? ⟨gb191, 0, none⟩ = some (.int .u8 0) := (blk_cell BK191.out 0).trans rfl
        have hcz32_1 : w11.cell? ⟨gb191, 1, none⟩ = some (.string (⟨#[]⟩ : ByteArray)) := (blk_cell BK191.out 1).trans rfl
        have hcz32_2 : w11.cell? ⟨gb191, 2, none⟩ = some (.int .i64 0) := (blk_cell BK191.out 2).trans rfl
        have hcz32_3 : w11.cell? ⟨gb191, 3, none⟩ = some (.int .i64 0) := (blk_cell BK191.out 3).trans rfl
        have hcz32_4 : w11.cell? ⟨gb191, 4, none⟩ = some (.int .i64 0) := (blk_cell BK191.out 4).trans rfl
        have hcz32_5 : w11.cell? ⟨gb191, 5, none⟩ = some (.string (⟨#[]⟩ : ByteArray)) := (blk_cell BK191.out 5).trans rfl
        have hfz32_0 := blk_frozen BK191.out 0
        have hfz32_1 := blk_frozen BK191.out 1
        have hfz32_2 := blk_frozen BK191.out 2
        have hfz32_3 := blk_frozen BK191.out 3
        have hfz32_4 := blk_frozen BK191.out 4
        have hfz32_5 := blk_frozen BK191.out 5
        go_wp2
        go_meet
        case rel => exact ⟨_, ((a1 == 114)), (by first | rfl | (simp; done) | (simp [*]; done)), H', ⟨by first | omega | exact Nat.le_refl _⟩, ⟨by (with_reducible repeat (first | refine blk_drewN ?_ _ | refine blk_drew ?_ | refine blk_alloc ?_ _)); refine blk_put (cs := #[.int .u8 ((rd_T159 l0 (ji3)).f0), .string ((rd_T159 l0 (ji3)).f1), .int .i64 ((rd_T159 l0 (ji3)).f2), .int .i64 ((rd_T159 l0 (ji3)).f3), .int .i64 ((rd_T159 l0 (ji3)).f4), .string (⟨#[]⟩ : ByteArray)]) ?_ 5 _ rfl; (with_reducible repeat (first | refine blk_drewN ?_ _ | refine blk_drew ?_ | refine blk_alloc ?_ _)); refine blk_put (cs := #[.int .u8 ((rd_T159 l0 (ji3)).f0), .string ((rd_T159 l0 (ji3)).f1), .int .i64 ((rd_T159 l0 (ji3)).f2), .int .i64 ((rd_T159 l0 (ji3)).f3), .int .i64 0, .string (⟨#[]⟩ : ByteArray)]) ?_ 4 _ rfl; (with_reducible repeat (first | refine blk_drewN ?_ _ | refine blk_drew ?_ | refine blk_alloc ?_ _)); refine blk_put (cs := #[.int .u8 ((rd_T159 l0 (ji3)).f0), .string ((rd_T159 l0 (ji3)).f1), .int .i64 ((rd_T159 l0 (ji3)).f2), .int .i64 0, .int .i64 0, .string (⟨#[]⟩ : ByteArray)]) ?_ 3 _ rfl; (with_reducible repeat (first | refine blk_drewN ?_ _ | refine blk_drew ?_ | refine blk_alloc ?_ _)); refine blk_put (cs := #[.int .u8 ((rd_T159 l0 (ji3)).f0), .string ((rd_T159 l0 (ji3)).f1), .int .i64 0, .int .i64 0, .int .i64 0, .string (⟨#[]⟩ : ByteArray)]) ?_ 2 _ rfl; (with_reducible repeat (first | refine blk_drewN ?_ _ | refine blk_drew ?_ | refine blk_alloc ?_ _)); refine blk_put (cs := #[.int .u8 ((rd_T159 l0 (ji3)).f0), .string (⟨#[]⟩ : ByteArray), .int .i64 0, .int .i64 0, .int .i64 0, .string (⟨#[]⟩ : ByteArray)]) ?_ 1 _ rfl; (with_reducible repeat (first | refine blk_drewN ?_ _ | refine blk_drew ?_ | refine blk_alloc ?_ _)); refine blk_put (cs := #[.int .u8 0, .string (⟨#[]⟩ : ByteArray), .int .i64 0, .int .i64 0, .int .i64 0, .string (⟨#[]⟩ : ByteArray)]) ?_ 0 _ rfl; (with_reducible repeat (first | refine blk_drewN ?_ _ | refine blk_drew ?_ | refine blk_alloc ?_ _)); exact BK191.out⟩, ⟨by repeat (first | (with_reducible first | exact HB.out | apply below_alloc | apply pw_below_drewN | apply below_drew1 | refine below_set ?_ GE191.out) | exact HB.out)⟩⟩
       ·rw [if_neg c31] at H
        have c31b0 : (((rd_T159 l0 (ji3)).f0) == 116) = false := beq_eq_false_iff_ne.mpr c31
        have c31b1 : (((rd_T159 l0 (ji3)).f0) != 116) = true := bne_iff_ne.mpr c31
        have H' := Aside0.mk H
        clear H
        have hcz33_0 : w11.cell? ⟨gb191, 0, none⟩ = some (.int .u8 0) := (blk_cell BK191.out 0).trans rfl
        have hcz33_1 : w11.cell? ⟨gb191, 1, none⟩ = some (.string (⟨#[]⟩ : ByteArray)) := (blk_cell BK191.out 1).trans rfl
        have hcz33_2 : w11.cell? ⟨gb191, 2, none⟩ = some (.int .i64 0) := (blk_cell BK191.out 2).trans rfl
        have hcz33_3 : w11.cell? ⟨gb191, 3, none⟩ = some (.int .i64 0) := (blk_cell BK191.out 3).trans rfl
        have hcz33_4 : w11.cell? ⟨gb191, 4, none⟩ = some (.int .i64 0) := (blk_cell BK191.out 4).trans rfl
        have hcz33_5 : w11.cell? ⟨gb191, 5, none⟩ = some (.string (⟨#[]⟩ : ByteArray)) := (blk_cell BK191.out 5).trans rfl
        have hfz33_0 := blk_frozen BK191.out 0
        have hfz33_1 := blk_frozen BK191.out 1
        have hfz33_2 := blk_frozen BK191.out 2
        have hfz33_3 := blk_frozen BK191.out 3
        have hfz33_4 := blk_frozen BK191.out 4
        have hfz33_5 := blk_frozen BK191.out 5
        go_wp2
        go_meet
        case rel => exact ⟨_, (false), (by first | rfl | (simp; done) | (simp [*]; done)), H', ⟨by first | omega | exact Nat.le_refl _⟩, ⟨by (with_reducible repeat (first | refine blk_drewN ?_ _ | refine blk_drew ?_ | refine blk_alloc ?_ _)); refine blk_put (cs := #[.int .u8 ((rd_T159 l0 (ji3)).f0), .string ((rd_T159 l0 (ji3)).f1), .int .i64 ((rd_T159 l0 (ji3)).f2), .int .i64 ((rd_T159 l0 (ji3)).f3), .int .i64 ((rd_T159 l0 (ji3)).f4), .string (⟨#[]⟩ : ByteArray)]) ?_ 5 _ rfl; (with_reducible repeat (first | refine blk_drewN ?_ _ | refine blk_drew ?_ | refine blk_alloc ?_ _)); refine blk_put (cs := #[.int .u8 ((rd_T159 l0 (ji3)).f0), .string ((rd_T159 l0 (ji3)).f1), .int .i64 ((rd_T159 l0 (ji3)).f2), .int .i64 ((rd_T159 l0 (ji3)).f3), .int .i64 0, .string (⟨#[]⟩ : ByteArray)]) ?_ 4 _ rfl; (with_reducible repeat (first | refine blk_drewN ?_ _ | refine blk_drew ?_ | refine blk_alloc ?_ _)); refine blk_put (cs := #[.int .u8 ((rd_T159 l0 (ji3)).f0), .string ((rd_T159 l0 (ji3)).f1), .int .i64 ((rd_T159 l0 (ji3)).f2), .int .i64 0, .int .i64 0, .string (⟨#[]⟩ : ByteArray)]) ?_ 3 _ rfl; (with_reducible repeat (first | refine blk_drewN ?_ _ | refine blk_drew ?_ | refine blk_alloc ?_ _)); refine blk_put (cs := #[.int .u8 ((rd_T159 l0 (ji3)).f0), .string ((rd_T159 l0 (ji3)).f1), .int .i64 0, .int .i64 0, .int .i64 0, .string (⟨#[]⟩ : ByteArray)]) ?_ 2 _ rfl; (with_reducible repeat (first | refine blk_drewN ?_ _ | refine blk_drew ?_ | refine blk_alloc ?_ _)); refine blk_put (cs := #[.int .u8 ((rd_T159 l0 (ji3)).f0), .string (⟨#[]⟩ : ByteArray), .int .i64 0, .int .i64 0, .int .i64 0, .string (⟨#[]⟩ : ByteArray)]) ?_ 1 _ rfl; (with_reducible repeat (first | refine blk_drewN ?_ _ | refine blk_drew ?_ | refine blk_alloc ?_ _)); refine blk_put (cs := #[.int .u8 0, .string (⟨#[]⟩ : ByteArray), .int .i64 0, .int .i64 0, .int .i64 0, .string (⟨#[]⟩ : ByteArray)]) ?_ 0 _ rfl; (with_reducible repeat (first | refine blk_drewN ?_ _ | refine blk_drew ?_ | refine blk_alloc ?_ _)); exact BK191.out⟩, ⟨by repeat (first | (with_reducible first | exact HB.out | apply below_alloc | apply pw_below_drewN | apply below_drew1 | refine below_set ?_ GE191.out) | exact HB.out)⟩⟩
    case rest =>
     clear HC10
     try clear c1
     try clear p1
     try clear q1
     try clear hx1
     try clear c2
     try clear p2
     try clear c3
     try clear c4
     try clear c4b0
     try clear c5
     try clear c5b0
     try clear c6
     try clear c6b0
     try clear c6b1
     try clear p6
     try clear c13
     try clear c13b0
     try clear c13b1
     try clear c14
     try clear c14b0
     try clear c14b1
     try clear c16
     try clear c16b0
     try clear c16b1
     try clear c17
     try clear c17b0
     try clear c17b1
     try clear c19
     try clear c19b0
     try clear c19b1
     try clear p19
     try clear q19
     try clear hx19
     try clear c22
     try clear c22b0
     try clear c22b1
     try clear c25
     try clear c25b0
     try clear c25b1
     try clear c26
     try clear c26b0
     try clear c26b1
     try clear c28
     try clear c28b0
     try clear c28b1
     try clear c31
     try clear c31b0
     try clear c31b1
     try clear hcz12_0
     try clear hcz12_1
     try clear hcz12_2
     try clear hcz12_3
     try clear hcz12_4
     try clear hcz12_5
     try clear hcz15_0
     try clear hcz15_1
     try clear hcz15_2
     try clear hcz15_3
     try clear hcz15_4
     try clear hcz15_5
     try clear hcz18_0
     try clear hcz18_1
     try clear hcz18_2
     try clear hcz18_3
     try clear hcz18_4
     try clear hcz18_5
     try clear hcz20_0
     try clear hcz20_1
     try clear hcz20_2
     try clear hcz20_3
     try clear hcz20_4
     try clear hcz20_5
     try clear hcz21_0
     try clear hcz21_1
     try clear hcz21_2
     try clear hcz21_3
     try clear hcz21_4
     try clear hcz21_5
     try clear hcz23_0
     try clear hcz23_1
     try clear hcz23_2
     try clear hcz23_3
     try clear hcz23_4
     try clear hcz23_5
     try clear hcz24_0
     try clear hcz24_1
     try clear hcz24_2
     try clear hcz24_3
     try clear hcz24_4
     try clear hcz24_5
     try clear hcz27_0
     try clear hcz27_1
     try clear hcz27_2
     try clear hcz27_3
     try clear hcz27_4
     try clear hcz27_5
     try clear hcz29_0
     try clear hcz29_1
     try clear hcz29_2
     try clear hcz29_3
     try clear hcz29_4
     try clear hcz29_5
     try clear hcz30_0
     try clear hcz30_1
     try clear hcz30_2
     try clear hcz30_3
     try clear hcz30_4
     try clear hcz30_5
     try clear hcz32_0
     try clear hcz32_1
     try clear hcz32_2
     try clear hcz32_3
     try clear hcz32_4
     try clear hcz32_5
     try clear hcz33_0
     try clear hcz33_1
     try clear hcz33_2
     try clear hcz33_3
     try clear hcz33_4
     try clear hcz33_5
     try clear hcz9_0
     try clear hcz9_1
     try clear hcz9_2
     try clear hcz9_3
     try clear hcz9_4
     try clear hcz9_5
     try clear hfz12_0
     try clear hfz12_1
     try clear hfz12_2
     try clear hfz12_3
     try clear hfz12_4
     try clear hfz12_5
     try clear hfz15_0
     try clear hfz15_1
     try clear hfz15_2
     try clear hfz15_3
     try clear hfz15_4
     try clear hfz15_5
     try clear hfz18_0
     try clear hfz18_1
     try clear hfz18_2
     try clear hfz18_3
     try clear hfz18_4
     try clear hfz18_5
     try clear hfz20_0
     try clear hfz20_1
     try clear hfz20_2
     try clear hfz20_3
     try clear hfz20_4
     try clear hfz20_5
     try clear hfz21_0
     try clear hfz21_1
     try clear hfz21_2
     try clear hfz21_3
     try clear hfz21_4
     try clear hfz21_5
     try clear hfz23_0
     try clear hfz23_1
     try clear hfz23_2
     try clear hfz23_3
     try clear hfz23_4
     try clear hfz23_5
     try clear hfz24_0
     try clear hfz24_1
     try clear hfz24_2
     try clear hfz24_3
     try clear hfz24_4
     try clear hfz24_5
     try clear hfz27_0
     try clear hfz27_1
     try clear hfz27_2
     try clear hfz27_3
     try clear hfz27_4
     try clear hfz27_5
     try clear hfz29_0
     try clear hfz29_1
     try clear hfz29_2
     try clear hfz29_3
     try clear hfz29_4
     try clear hfz29_5
     try clear hfz30_0
     try clear hfz30_1
     try clear hfz30_2
     try clear hfz30_3
     try clear hfz30_4
     try clear hfz30_5
     try clear hfz32_0
     try clear hfz32_1
     try clear hfz32_2
     try clear hfz32_3
     try clear hfz32_4
     try clear hfz32_5
     try clear hfz33_0
     try clear hfz33_1
     try clear hfz33_2
     try clear hfz33_3
     try clear hfz33_4
     try clear hfz33_5
     try clear hfz9_0
     try clear hfz9_1
     try clear hfz9_2
     try clear hfz9_3
     try clear hfz9_4
     try clear hfz9_5
     try clear hx190_0
     try clear hx190_1
     try clear hx190_2
     try clear hx190_3
     try clear hx190_4
     try clear hx190_5
     try clear p190
     try clear q190
     obtain ⟨kq, x42_9, rfl, HA, HJ9, BK191, HB⟩ := hcut
     cases kq with
     | zero => exact absurd HA.out (by simp [stylusref04_opens.j0])
     | succ kj9 =>
      have H := HA.out
      clear HA
      simp only [stylusref04_opens.j0] at H
      by_cases c34 : x42_9 = true
      ·subst c34
       have H1 : (some true) = some r := by rw [if_pos rfl] at H; exact H
       clear H
       have H := H1
       clear H1
       obtain rfl := Option.some.inj H
       go_wp2
       go_ret
       exact ⟨by first | rfl | (simp [errW_none, errW_some] <;> rfl) | (simp only [← hji3]; first | rfl | (simp [errW_none, errW_some] <;> rfl)) | (simp [*, errW_none, errW_some] <;> rfl), by repeat (first | (with_reducible first | exact HB.out | apply below_alloc | apply pw_below_drewN | apply below_drew1 | refine below_set ?_ GE191.out) | exact HB.out)⟩
      ·replace c34 := Bool.eq_false_iff.mpr c34
       subst c34
       have H1 : (if ((rd_T159 l0 (ji3)).f0) = 114 then (if a1 = 99 then (some (decide ((((rd_T159 l0 (ji3)).f1).size : Int) < 8))) else (some false)) else ((stylusref04_Texts.f kj9 l0).bind fun t193 => (if t193 = true then ((stylusref04_in.f kj9 a1 (⟨#[101, 115, 110]⟩ : ByteArray)).bind fun t194 => (if t194 = true then ((stylusref04_many.f kj9 l0 a1).bind fun t195 => (stylusref04_opens.j1 kj9 l0 a1 (decide (t195 > 0)))) else (stylusref04_opens.j1 kj9 l0 a1 true))) else (stylusref04_opens.j1 kj9 l0 a1 true)))) = some r := by rw [if_neg (show ¬ (false = true) by decide)] at H; exact H
       clear H
       have H := H1
       clear H1
       by_cases c35 : ((rd_T159 l0 (ji3)).f0) = 114
       ·rw [if_pos c35] at H
        have c35b0 : (((rd_T159 l0 (ji3)).f0) == 114) = true := beq_iff_eq.mpr c35
        have c35b1 : (((rd_T159 l0 (ji3)).f0) != 114) = false := bne_eq_false_iff_eq.mpr c35
        clear c35
        by_cases c36 : a1 = 99
        ·rw [if_pos c36] at H
         have c36b0 : (a1 == 99) = true := beq_iff_eq.mpr c36
         have c36b1 : (a1 != 99) = false := bne_eq_false_iff_eq.mpr c36
         clear c36
         obtain rfl := Option.some.inj H
         have hcz37_0 : wc.cell? ⟨gb191, 0, none⟩ = some (.int .u8 ((rd_T159 l0 (ji3)).f0)) := (blk_cell BK191.out 0).trans rfl
         have hcz37_1 : wc.cell? ⟨gb191, 1, none⟩ = some (.string ((rd_T159 l0 (ji3)).f1)) := (blk_cell BK191.out 1).trans rfl
         have hcz37_2 : wc.cell? ⟨gb191, 2, none⟩ = some (.int .i64 ((rd_T159 l0 (ji3)).f2)) := (blk_cell BK191.out 2).trans rfl
         have hcz37_3 : wc.cell? ⟨gb191, 3, none⟩ = some (.int .i64 ((rd_T159 l0 (ji3)).f3)) := (blk_cell BK191.out 3).trans rfl
         have hcz37_4 : wc.cell? ⟨gb191, 4, none⟩ = some (.int .i64 ((rd_T159 l0 (ji3)).f4)) := (blk_cell BK191.out 4).trans rfl
         have hcz37_5 : wc.cell? ⟨gb191, 5, none⟩ = some (.string ((rd_T159 l0 (ji3)).f5)) := (blk_cell BK191.out 5).trans rfl
         have hfz37_0 := blk_frozen BK191.out 0
         have hfz37_1 := blk_frozen BK191.out 1
         have hfz37_2 := blk_frozen BK191.out 2
         have hfz37_3 := blk_frozen BK191.out 3
         have hfz37_4 := blk_frozen BK191.out 4
         have hfz37_5 := blk_frozen BK191.out 5
         go_wp2
         go_ret
         exact ⟨by first | rfl | (simp [errW_none, errW_some] <;> rfl) | (simp only [← hji3]; first | rfl | (simp [errW_none, errW_some] <;> rfl)) | (simp [*, errW_none, errW_some] <;> rfl), by repeat (first | (with_reducible first | exact HB.out | apply below_alloc | apply pw_below_drewN | apply below_drew1 | refine below_set ?_ GE191.out) | exact HB.out)⟩
        ·rw [if_neg c36] at H
         have c36b0 : (a1 == 99) = false := beq_eq_false_iff_ne.mpr c36
         have c36b1 : (a1 != 99) = true := bne_iff_ne.mpr c36
         obtain rfl := Option.some.inj H
         have hcz38_0 : wc.cell? ⟨gb191, 0, none⟩ = some (.int .u8 ((rd_T159 l0 (ji3)).f0)) := (blk_cell BK191.out 0).trans rfl
         have hcz38_1 : wc.cell? ⟨gb191, 1, none⟩ = some (.string ((rd_T159 l0 (ji3)).f1)) := (blk_cell BK191.out 1).trans rfl
         have hcz38_2 : wc.cell? ⟨gb191, 2, none⟩ = some (.int .i64 ((rd_T159 l0 (ji3)).f2)) := (blk_cell BK191.out 2).trans rfl
         have hcz38_3 : wc.cell? ⟨gb191, 3, none⟩ = some (.int .i64 ((rd_T159 l0 (ji3)).f3)) := (blk_cell BK191.out 3).trans rfl
         have hcz38_4 : wc.cell? ⟨gb191, 4, none⟩ = some (.int .i64 ((rd_T159 l0 (ji3)).f4)) := (blk_cell BK191.out 4).trans rfl
         have hcz38_5 : wc.cell? ⟨gb191, 5, none⟩ = some (.string ((rd_T159 l0 (ji3)).f5)) := (blk_cell BK191.out 5).trans rfl
         have hfz38_0 := blk_frozen BK191.out 0
         have hfz38_1 := blk_frozen BK191.out 1
         have hfz38_2 := blk_frozen BK191.out 2
         have hfz38_3 := blk_frozen BK191.out 3
         have hfz38_4 := blk_frozen BK191.out 4
         have hfz38_5 := blk_frozen BK191.out 5
         go_wp2
         go_ret
         exact ⟨by first | rfl | (simp [errW_none, errW_some] <;> rfl) | (simp only [← hji3]; first | rfl | (simp [errW_none, errW_some] <;> rfl)) | (simp [*, errW_none, errW_some] <;> rfl), by repeat (first | (with_reducible first | exact HB.out | apply below_alloc | apply pw_below_drewN | apply below_drew1 | refine below_set ?_ GE191.out) | exact HB.out)⟩
       ·rw [if_neg c35] at H
        have c35b0 : (((rd_T159 l0 (ji3)).f0) == 114) = false := beq_eq_false_iff_ne.mpr c35
        have c35b1 : (((rd_T159 l0 (ji3)).f0) != 114) = true := bne_iff_ne.mpr c35
        have HC39 := Aside0.mk H
        clear H
        have hcz40_0 : wc.cell? ⟨gb191, 0, none⟩ = some (.int .u8 ((rd_T159 l0 (ji3)).f0)) := (blk_cell BK191.out 0).trans rfl
        have hcz40_1 : wc.cell? ⟨gb191, 1, none⟩ = some (.string ((rd_T159 l0 (ji3)).f1)) := (blk_cell BK191.out 1).trans rfl
        have hcz40_2 : wc.cell? ⟨gb191, 2, none⟩ = some (.int .i64 ((rd_T159 l0 (ji3)).f2)) := (blk_cell BK191.out 2).trans rfl
        have hcz40_3 : wc.cell? ⟨gb191, 3, none⟩ = some (.int .i64 ((rd_T159 l0 (ji3)).f3)) := (blk_cell BK191.out 3).trans rfl
        have hcz40_4 : wc.cell? ⟨gb191, 4, none⟩ = some (.int .i64 ((rd_T159 l0 (ji3)).f4)) := (blk_cell BK191.out 4).trans rfl
        have hcz40_5 : wc.cell? ⟨gb191, 5, none⟩ = some (.string ((rd_T159 l0 (ji3)).f5)) := (blk_cell BK191.out 5).trans rfl
        have hfz40_0 := blk_frozen BK191.out 0
        have hfz40_1 := blk_frozen BK191.out 1
        have hfz40_2 := blk_frozen BK191.out 2
        have hfz40_3 := blk_frozen BK191.out 3
        have hfz40_4 := blk_frozen BK191.out 4
        have hfz40_5 := blk_frozen BK191.out 5
        go_upto_region 8 with (fail)
        go_cut [67] (fun v67 wc => ∃ (kq : Nat) (x67_38 : Bool), v67 = .bool x67_38 ∧ Aside0 (stylusref04_opens.j1 kq l0 a1 x67_38 = some r) ∧ Aside0 (kq ≤ kj9) ∧ Aside0 (wc.heap[gb191]? = some (.cells #[.int .u8 ((rd_T159 l0 (ji3)).f0), .string ((rd_T159 l0 (ji3)).f1), .int .i64 ((rd_T159 l0 (ji3)).f2), .int .i64 ((rd_T159 l0 (ji3)).f3), .int .i64 ((rd_T159 l0 (ji3)).f4), .string ((rd_T159 l0 (ji3)).f5)] 159 (0, 0))) ∧ Aside0 (Below w.heap.size w wc))
        case first =>
         have H := HC39.out
         clear HC39
         replace H := Option.bind_eq_some_iff.mp H
         obtain ⟨t193, A410, H⟩ := H
         replace H : (if t193 = true then ((stylusref04_in.f kj9 a1 (⟨#[101, 115, 110]⟩ : ByteArray)).bind fun t194 => (if t194 = true then ((stylusref04_many.f kj9 l0 a1).bind fun t195 => (stylusref04_opens.j1 kj9 l0 a1 (decide (t195 > 0)))) else (stylusref04_opens.j1 kj9 l0 a1 true))) else (stylusref04_opens.j1 kj9 l0 a1 true)) = some r := H
         have A41 := Aside0.mk A410
         clear A410
         by_cases c42 : t193 = true
         ·subst c42
          have H1 : ((stylusref04_in.f kj9 a1 (⟨#[101, 115, 110]⟩ : ByteArray)).bind fun t194 => (if t194 = true then ((stylusref04_many.f kj9 l0 a1).bind fun t195 => (stylusref04_opens.j1 kj9 l0 a1 (decide (t195 > 0)))) else (stylusref04_opens.j1 kj9 l0 a1 true))) = some r := by rw [if_pos rfl] at H; exact H
          clear H
          have H := H1
          clear H1
          replace H := Option.bind_eq_some_iff.mp H
          obtain ⟨t194, A430, H⟩ := H
          replace H : (if t194 = true then ((stylusref04_many.f kj9 l0 a1).bind fun t195 => (stylusref04_opens.j1 kj9 l0 a1 (decide (t195 > 0)))) else (stylusref04_opens.j1 kj9 l0 a1 true)) = some r := H
          have A43 := Aside0.mk A430
          clear A430
          by_cases c44 : t194 = true
          ·subst c44
           have H1 : ((stylusref04_many.f kj9 l0 a1).bind fun t195 => (stylusref04_opens.j1 kj9 l0 a1 (decide (t195 > 0)))) = some r := by rw [if_pos rfl] at H; exact H
           clear H
           have H := H1
           clear H1
           replace H := Option.bind_eq_some_iff.mp H
           obtain ⟨t195, A450, H⟩ := H
           replace H : (stylusref04_opens.j1 kj9 l0 a1 (decide (t195 > 0))) = some r := H
           have A45 := Aside0.mk A450
           clear A450
           have H' := Aside0.mk H
           clear H
           go_wp2_with (first | ((with_reducible refine gate_callee (f := 108) rfl ?_); refine goesL_ (some 55) rfl rfl Try.func108 (by kernel_rfl) rfl #[.slice (some ad190) l0.length c0] rfl (by (try simp only [List.map_toArray, List.map_cons, List.map_nil]); first | done | rfl | (simp only [List.length_drop, List.length_take]; rfl)) ?_; (with_reducible refine (stylusref04_Texts.calls kj9 _ _ l0 true _ ?side1 ?side2 A41.out).mono ?_); (case side1 => repeat (first | exact (Kd.C_below HR0.out HB.out) | (with_reducible refine Kd.C_alloc ?_ _) | (with_reducible refine Kd.C_drewN ?_ _) | (with_reducible refine Kd.C_drew ?_))); (case side2 => exact HC0.out); rintro e w46 ⟨rfl, hb⟩; refine ⟨_, rfl, ?_⟩; have n0_ := Aside0.mk (blk_below (g := gb191) (o := .cells #[.int .u8 ((rd_T159 l0 (ji3)).f0), .string ((rd_T159 l0 (ji3)).f1), .int .i64 ((rd_T159 l0 (ji3)).f2), .int .i64 ((rd_T159 l0 (ji3)).f3), .int .i64 ((rd_T159 l0 (ji3)).f4), .string ((rd_T159 l0 (ji3)).f5)] 159 (0, 0)) (by (with_reducible repeat (first | refine blk_drewN ?_ _ | refine blk_drew ?_ | refine blk_alloc ?_ _)); exact BK191.out) hb); have n1_ := Aside0.mk (below_step (by repeat (first | (with_reducible first | exact HB.out | apply below_alloc | apply pw_below_drewN | apply below_drew1 | refine below_set ?_ GE191.out) | exact HB.out)) hb); clear BK191; clear HB; have BK191 := n0_; have HB := n1_; clear n0_ n1_; (try clear hb); (try clear hb2); (try clear hk); (try clear hi)) | (go_at_call 140; (with_reducible refine (stylusref04_in.calls kj9 a1 (⟨#[101, 115, 110]⟩ : ByteArray) true _ A43.out).mono ?_); rintro e w' ⟨rfl, ⟨nd, rfl⟩⟩) | (go_at_call 139; (with_reducible refine (stylusref04_many.calls kj9 _ _ l0 a1 t195 _ ?side1 ?side2 A45.out).mono ?_); (case side1 => repeat (first | exact (Kd.C_below HR0.out (by repeat (first | (with_reducible first | exact HB.out | apply below_alloc | apply pw_below_drewN | apply below_drew1 | refine below_set ?_ GE191.out) | exact HB.out))) | (with_reducible refine Kd.C_alloc ?_ _) | (with_reducible refine Kd.C_drewN ?_ _) | (with_reducible refine Kd.C_drew ?_))); (case side2 => exact HC0.out); rintro e w' ⟨rfl, ⟨nd, rfl⟩⟩))
           go_meet
           case rel => exact ⟨_, (decide (t195 > 0)), (by first | rfl | (simp; done) | (simp [*]; done)), H', ⟨by have := HJ9.out; first | omega | exact Nat.le_refl _⟩, ⟨by (with_reducible repeat (first | refine blk_drewN ?_ _ | refine blk_drew ?_ | refine blk_alloc ?_ _)); exact BK191.out⟩, ⟨by repeat (first | (with_reducible first | exact HB.out | apply below_alloc | apply pw_below_drewN | apply below_drew1 | refine below_set ?_ GE191.out) | exact HB.out)⟩⟩
          ·replace c44 := Bool.eq_false_iff.mpr c44
           subst c44
           have H1 : (stylusref04_opens.j1 kj9 l0 a1 true) = some r := by rw [if_neg (show ¬ (false = true) by decide)] at H; exact H
           clear H
           have H := H1
           clear H1
           have H' := Aside0.mk H
           clear H
           go_wp2_with (first | ((with_reducible refine gate_callee (f := 108) rfl ?_); refine goesL_ (some 55) rfl rfl Try.func108 (by kernel_rfl) rfl #[.slice (some ad190) l0.length c0] rfl (by (try simp only [List.map_toArray, List.map_cons, List.map_nil]); first | done | rfl | (simp only [List.length_drop, List.length_take]; rfl)) ?_; (with_reducible refine (stylusref04_Texts.calls kj9 _ _ l0 true _ ?side1 ?side2 A41.out).mono ?_); (case side1 => repeat (first | exact (Kd.C_below HR0.out HB.out) | (with_reducible refine Kd.C_alloc ?_ _) | (with_reducible refine Kd.C_drewN ?_ _) | (with_reducible refine Kd.C_drew ?_))); (case side2 => exact HC0.out); rintro e w47 ⟨rfl, hb⟩; refine ⟨_, rfl, ?_⟩; have n0_ := Aside0.mk (blk_below (g := gb191) (o := .cells #[.int .u8 ((rd_T159 l0 (ji3)).f0), .string ((rd_T159 l0 (ji3)).f1), .int .i64 ((rd_T159 l0 (ji3)).f2), .int .i64 ((rd_T159 l0 (ji3)).f3), .int .i64 ((rd_T159 l0 (ji3)).f4), .string ((rd_T159 l0 (ji3)).f5)] 159 (0, 0)) (by (with_reducible repeat (first | refine blk_drewN ?_ _ | refine blk_drew ?_ | refine blk_alloc ?_ _)); exact BK191.out) hb); have n1_ := Aside0.mk (below_step (by repeat (first | (with_reducible first | exact HB.out | apply below_alloc | apply pw_below_drewN | apply below_drew1 | refine below_set ?_ GE191.out) | exact HB.out)) hb); clear BK191; clear HB; have BK191 := n0_; have HB := n1_; clear n0_ n1_; (try clear hb); (try clear hb2); (try clear hk); (try clear hi)) | (go_at_call 140; (with_reducible refine (stylusref04_in.calls kj9 a1 (⟨#[101, 115, 110]⟩ : ByteArray) false _ A43.out).mono ?_); rintro e w' ⟨rfl, ⟨nd, rfl⟩⟩))
           go_meet
           case rel => exact ⟨_, (true), (by first | rfl | (simp; done) | (simp [*]; done)), H', ⟨by have := HJ9.out; first | omega | exact Nat.le_refl _⟩, ⟨by (with_reducible repeat (first | refine blk_drewN ?_ _ | refine blk_drew ?_ | refine blk_alloc ?_ _)); exact BK191.out⟩, ⟨by repeat (first | (with_reducible first | exact HB.out | apply below_alloc | apply pw_below_drewN | apply below_drew1 | refine below_set ?_ GE191.out) | exact HB.out)⟩⟩
         ·replace c42 := Bool.eq_false_iff.mpr c42
          subst c42
          have H1 : (stylusref04_opens.j1 kj9 l0 a1 true) = some r := by rw [if_neg (show ¬ (false = true) by decide)] at H; exact H
          clear H
          have H := H1
          clear H1
          have H' := Aside0.mk H
          clear H
          go_wp2_with (first | ((with_reducible refine gate_callee (f := 108) rfl ?_); refine goesL_ (some 55) rfl rfl Try.func108 (by kernel_rfl) rfl #[.slice (some ad190) l0.length c0] rfl (by (try simp only [List.map_toArray, List.map_cons, List.map_nil]); first | done | rfl | (simp only [List.length_drop, List.length_take]; rfl)) ?_; (with_reducible refine (stylusref04_Texts.calls kj9 _ _ l0 false _ ?side1 ?side2 A41.out).mono ?_); (case side1 => repeat (first | exact (Kd.C_below HR0.out HB.out) | (with_reducible refine Kd.C_alloc ?_ _) | (with_reducible refine Kd.C_drewN ?_ _) | (with_reducible refine Kd.C_drew ?_))); (case side2 => exact HC0.out); rintro e w48 ⟨rfl, hb⟩; refine ⟨_, rfl, ?_⟩; have n0_ := Aside0.mk (blk_below (g := gb191) (o := .cells #[.int .u8 ((rd_T159 l0 (ji3)).f0), .string ((rd_T159 l0 (ji3)).f1), .int .i64 ((rd_T159 l0 (ji3)).f2), .int .i64 ((rd_T159 l0 (ji3)).f3), .int .i64 ((rd_T159 l0 (ji3)).f4), .string ((rd_T159 l0 (ji3)).f5)] 159 (0, 0)) (by (with_reducible repeat (first | refine blk_drewN ?_ _ | refine blk_drew ?_ | refine blk_alloc ?_ _)); exact BK191.out) hb); have n1_ := Aside0.mk (below_step (by repeat (first | (with_reducible first | exact HB.out | apply below_alloc | apply pw_below_drewN | apply below_drew1 | refine below_set ?_ GE191.out) | exact HB.out)) hb); clear BK191; clear HB; have BK191 := n0_; have HB := n1_; clear n0_ n1_; (try clear hb); (try clear hb2); (try clear hk); (try clear hi)))
          go_meet
          case rel => exact ⟨_, (true), (by first | rfl | (simp; done) | (simp [*]; done)), H', ⟨by have := HJ9.out; first | omega | exact Nat.le_refl _⟩, ⟨by (with_reducible repeat (first | refine blk_drewN ?_ _ | refine blk_drew ?_ | refine blk_alloc ?_ _)); exact BK191.out⟩, ⟨by repeat (first | (with_reducible first | exact HB.out | apply below_alloc | apply pw_below_drewN | apply below_drew1 | refine below_set ?_ GE191.out) | exact HB.out)⟩⟩
        case rest =>
         clear HC39
         try clear c1
         try clear p1
         try clear q1
         try clear hx1
         try clear c2
         try clear p2
         try clear c3
         try clear c4
         try clear c4b0
         try clear c5
         try clear c5b0
         try clear c6
         try clear c6b0
         try clear c6b1
         try clear p6
         try clear c10
         try clear c13
         try clear c13b0
         try clear c13b1
         try clear c14
         try clear c14b0
         try clear c14b1
         try clear c16
         try clear c16b0
         try clear c16b1
         try clear c17
         try clear c17b0
         try clear c17b1
         try clear c19
         try clear c19b0
         try clear c19b1
         try clear p19
         try clear q19
         try clear hx19
         try clear c22
         try clear c22b0
         try clear c22b1
         try clear c25
         try clear c25b0
         try clear c25b1
         try clear c26
         try clear c26b0
         try clear c26b1
         try clear c28
         try clear c28b0
         try clear c28b1
         try clear c31
         try clear c31b0
         try clear c31b1
         try clear c34
         try clear c35
         try clear c35b0
         try clear c35b1
         try clear c36
         try clear c36b0
         try clear c36b1
         try clear c42
         try clear c44
         try clear hcz12_0
         try clear hcz12_1
         try clear hcz12_2
         try clear hcz12_3
         try clear hcz12_4
         try clear hcz12_5
         try clear hcz15_0
         try clear hcz15_1
         try clear hcz15_2
         try clear hcz15_3
         try clear hcz15_4
         try clear hcz15_5
         try clear hcz18_0
         try clear hcz18_1
         try clear hcz18_2
         try clear hcz18_3
         try clear hcz18_4
         try clear hcz18_5
         try clear hcz20_0
         try clear hcz20_1
         try clear hcz20_2
         try clear hcz20_3
         try clear hcz20_4
         try clear hcz20_5
         try clear hcz21_0
         try clear hcz21_1
         try clear hcz21_2
         try clear hcz21_3
         try clear hcz21_4
         try clear hcz21_5
         try clear hcz23_0
         try clear hcz23_1
         try clear hcz23_2
         try clear hcz23_3
         try clear hcz23_4
         try clear hcz23_5
         try clear hcz24_0
         try clear hcz24_1
         try clear hcz24_2
         try clear hcz24_3
         try clear hcz24_4
         try clear hcz24_5
         try clear hcz27_0
         try clear hcz27_1
         try clear hcz27_2
         try clear hcz27_3
         try clear hcz27_4
         try clear hcz27_5
         try clear hcz29_0
         try clear hcz29_1
         try clear hcz29_2
         try clear hcz29_3
         try clear hcz29_4
         try clear hcz29_5
         try clear hcz30_0
         try clear hcz30_1
         try clear hcz30_2
         try clear hcz30_3
         try clear hcz30_4
         try clear hcz30_5
         try clear hcz32_0
         try clear hcz32_1
         try clear hcz32_2
         try clear hcz32_3
         try clear hcz32_4
         try clear hcz32_5
         try clear hcz33_0
         try clear hcz33_1
         try clear hcz33_2
         try clear hcz33_3
         try clear hcz33_4
         try clear hcz33_5
         try clear hcz37_0
         try clear hcz37_1
         try clear hcz37_2
         try clear hcz37_3
         try clear hcz37_4
         try clear hcz37_5
         try clear hcz38_0
         try clear hcz38_1
         try clear hcz38_2
         try clear hcz38_3
         try clear hcz38_4
         try clear hcz38_5
         try clear hcz40_0
         try clear hcz40_1
         try clear hcz40_2
         try clear hcz40_3
         try clear hcz40_4
         try clear hcz40_5
         try clear hcz9_0
         try clear hcz9_1
         try clear hcz9_2
         try clear hcz9_3
         try clear hcz9_4
         try clear hcz9_5
         try clear hfz12_0
         try clear hfz12_1
         try clear hfz12_2
         try clear hfz12_3
         try clear hfz12_4
         try clear hfz12_5
         try clear hfz15_0
         try clear hfz15_1
         try clear hfz15_2
         try clear hfz15_3
         try clear hfz15_4
         try clear hfz15_5
         try clear hfz18_0
         try clear hfz18_1
         try clear hfz18_2
         try clear hfz18_3
         try clear hfz18_4
         try clear hfz18_5
         try clear hfz20_0
         try clear hfz20_1
         try clear hfz20_2
         try clear hfz20_3
         try clear hfz20_4
         try clear hfz20_5
         try clear hfz21_0
         try clear hfz21_1
         try clear hfz21_2
         try clear hfz21_3
         try clear hfz21_4
         try clear hfz21_5
         try clear hfz23_0
         try clear hfz23_1
         try clear hfz23_2
         try clear hfz23_3
         try clear hfz23_4
         try clear hfz23_5
         try clear hfz24_0
         try clear hfz24_1
         try clear hfz24_2
         try clear hfz24_3
         try clear hfz24_4
         try clear hfz24_5
         try clear hfz27_0
         try clear hfz27_1
         try clear hfz27_2
         try clear hfz27_3
         try clear hfz27_4
         try clear hfz27_5
         try clear hfz29_0
         try clear hfz29_1
         try clear hfz29_2
         try clear hfz29_3
         try clear hfz29_4
         try clear hfz29_5
         try clear hfz30_0
         try clear hfz30_1
         try clear hfz30_2
         try clear hfz30_3
         try clear hfz30_4
         try clear hfz30_5
         try clear hfz32_0
         try clear hfz32_1
         try clear hfz32_2
         try clear hfz32_3
         try clear hfz32_4
         try clear hfz32_5
         try clear hfz33_0
         try clear hfz33_1
         try clear hfz33_2
         try clear hfz33_3
         try clear hfz33_4
         try clear hfz33_5
         try clear hfz37_0
         try clear hfz37_1
         try clear hfz37_2
         try clear hfz37_3
         try clear hfz37_4
         try clear hfz37_5
         try clear hfz38_0
         try clear hfz38_1
         try clear hfz38_2
         try clear hfz38_3
         try clear hfz38_4
         try clear hfz38_5
         try clear hfz40_0
         try clear hfz40_1
         try clear hfz40_2
         try clear hfz40_3
         try clear hfz40_4
         try clear hfz40_5
         try clear hfz9_0
         try clear hfz9_1
         try clear hfz9_2
         try clear hfz9_3
         try clear hfz9_4
         try clear hfz9_5
         try clear hx190_0
         try clear hx190_1
         try clear hx190_2
         try clear hx190_3
         try clear hx190_4
         try clear hx190_5
         try clear p1
         try clear p19
         try clear p190
         try clear p2
         try clear p6
         try clear q1
         try clear q19
         try clear q190
         obtain ⟨kq, x67_38, rfl, HA, HJ38, BK191, HB⟩ := hcut
         cases kq with
         | zero => exact absurd HA.out (by simp [stylusref04_opens.j1])
         | succ kj38 =>
          have H := HA.out
          clear HA
          simp only [stylusref04_opens.j1] at H
          by_cases c49 : x67_38 = true
          ·subst c49
           have H1 : (some false) = some r := by rw [if_pos rfl] at H; exact H
           clear H
           have H := H1
           clear H1
           obtain rfl := Option.some.inj H
           go_wp2
           go_ret
           exact ⟨by first | rfl | (simp [errW_none, errW_some] <;> rfl) | (simp only [← hji3]; first | rfl | (simp [errW_none, errW_some] <;> rfl)) | (simp [*, errW_none, errW_some] <;> rfl), by repeat (first | (with_reducible first | exact HB.out | apply below_alloc | apply pw_below_drewN | apply below_drew1 | refine below_set ?_ GE191.out) | exact HB.out)⟩
          ·replace c49 := Bool.eq_false_iff.mpr c49
           subst c49
           have H1 : (if a1 = 110 then ((stylusref04_last.f kj38 l0 (⟨#[49, 50, 51, 112, 105]⟩ : ByteArray)).bind fun t196 => ((stylusref04_many.f kj38 l0 99).bind fun t197 => (if t197 = 0 then (if t196 > 0 then (if 0 ≤ t196 then (if t196 < (l0.length : Int) then (some (((rd_T159 l0 t196).f3) == 0)) else (none)) else (none)) else (some false)) else (some false)))) else (some true)) = some r := by rw [if_neg (show ¬ (false = true) by decide)] at H; exact H
           clear H
           have H := H1
           clear H1
           by_cases c50 : a1 = 110
           ·rw [if_pos c50] at H
            have c50b0 : (a1 == 110) = true := beq_iff_eq.mpr c50
            have c50b1 : (a1 != 110) = false := bne_eq_false_iff_eq.mpr c50
            clear c50
            replace H := Option.bind_eq_some_iff.mp H
            obtain ⟨t196, A510, H⟩ := H
            replace H : ((stylusref04_many.f kj38 l0 99).bind fun t197 => (if t197 = 0 then (if t196 > 0 then (if 0 ≤ t196 then (if t196 < (l0.length : Int) then (some (((rd_T159 l0 t196).f3) == 0)) else (none)) else (none)) else (some false)) else (some false))) = some r := H
            have A51 := Aside0.mk A510
            clear A510
            replace H := Option.bind_eq_some_iff.mp H
            obtain ⟨t197, A520, H⟩ := H
            replace H : (if t197 = 0 then (if t196 > 0 then (if 0 ≤ t196 then (if t196 < (l0.length : Int) then (some (((rd_T159 l0 t196).f3) == 0)) else (none)) else (none)) else (some false)) else (some false)) = some r := H
            have A52 := Aside0.mk A520
            clear A520
            by_cases c53 : t197 = 0
            ·rw [if_pos c53] at H
             have c53b0 : (t197 == 0) = true := beq_iff_eq.mpr c53
             have c53b1 : (t197 != 0) = false := bne_eq_false_iff_eq.mpr c53
             clear c53
             by_cases c54 : t196 > 0
             ·rw [if_pos c54] at H
              have c54b0 : decide (0 < t196) = true := decide_eq_true c54
              clear c54
              by_cases c55 : 0 ≤ t196
              ·rw [if_pos c55] at H
               have c55b0 : decide (0 ≤ t196) = true := decide_eq_true c55
               clear c55
               by_cases c56 : t196 < (l0.length : Int)
               ·rw [if_pos c56] at H
                have c56b0 : decide (t196 < (l0.length : Int)) = true := decide_eq_true c56
                clear c56
                obtain rfl := Option.some.inj H
                go_wp2_with (first | ((with_reducible refine gate_callee (f := 137) rfl ?_); refine goesL_ (some 71) rfl rfl Try.func137 (by kernel_rfl) rfl #[.slice (some ad190) l0.length c0, .string (⟨#[49, 50, 51, 112, 105]⟩ : ByteArray)] rfl (by (try simp only [List.map_toArray, List.map_cons, List.map_nil]); first | done | rfl | (simp only [List.length_drop, List.length_take]; rfl)) ?_; (with_reducible refine (stylusref04_last.calls kj38 _ _ l0 (⟨#[49, 50, 51, 112, 105]⟩ : ByteArray) t196 _ ?side1 ?side2 A51.out).mono ?_); (case side1 => repeat (first | exact (Kd.C_below HR0.out HB.out) | (with_reducible refine Kd.C_alloc ?_ _) | (with_reducible refine Kd.C_drewN ?_ _) | (with_reducible refine Kd.C_drew ?_))); (case side2 => exact HC0.out); rintro e w' ⟨rfl, ⟨nd, rfl⟩⟩; refine ⟨_, rfl, ?_⟩) | ((with_reducible refine gate_callee (f := 139) rfl ?_); refine goesL_ (some 73) rfl rfl Try.func139 (by kernel_rfl) rfl #[.slice (some ad190) l0.length c0, .int .u8 99] rfl (by (try simp only [List.map_toArray, List.map_cons, List.map_nil]); first | done | rfl | (simp only [List.length_drop, List.length_take]; rfl)) ?_; (with_reducible refine (stylusref04_many.calls kj38 _ _ l0 99 t197 _ ?side1 ?side2 A52.out).mono ?_); (case side1 => repeat (first | exact (Kd.C_below HR0.out (by repeat (first | (with_reducible first | exact HB.out | apply below_alloc | apply pw_below_drewN | apply below_drew1 | refine below_set ?_ GE191.out) | exact HB.out))) | (with_reducible refine Kd.C_alloc ?_ _) | (with_reducible refine Kd.C_drewN ?_ _) | (with_reducible refine Kd.C_drew ?_))); (case side2 => exact HC0.out); rintro e w' ⟨rfl, ⟨nd, rfl⟩⟩; refine ⟨_, rfl, ?_⟩; have p198 : 0 ≤ (t196 : Int) := of_decide_eq_true (by first | (with_reducible assumption) | assumption); have q198 : t196 < (l0.length : Int) := of_decide_eq_true (by first | (with_reducible assumption) | assumption); obtain ⟨ad198, e198, hx198_0, hx198_1, hx198_2, hx198_3, hx198_4, hx198_5⟩ := at_T159 HR0.out t196 p198 q198; obtain rfl : ad190 = ad198 := (by injection e198); replace hx198_0 := (HB.out.cell (World.block_lt_of_cell? w _ hx198_0)).trans hx198_0; replace hx198_1 := (HB.out.cell (World.block_lt_of_cell? w _ hx198_1)).trans hx198_1; replace hx198_2 := (HB.out.cell (World.block_lt_of_cell? w _ hx198_2)).trans hx198_2; replace hx198_3 := (HB.out.cell (World.block_lt_of_cell? w _ hx198_3)).trans hx198_3; replace hx198_4 := (HB.out.cell (World.block_lt_of_cell? w _ hx198_4)).trans hx198_4; replace hx198_5 := (HB.out.cell (World.block_lt_of_cell? w _ hx198_5)).trans hx198_5; replace p198 := eq_true p198; replace q198 := eq_true q198))
                go_ret
                exact ⟨by first | rfl | (simp [errW_none, errW_some] <;> rfl) | (simp only [← hji3]; first | rfl | (simp [errW_none, errW_some] <;> rfl)) | (simp [*, errW_none, errW_some] <;> rfl), by repeat (first | (with_reducible first | exact HB.out | apply below_alloc | apply pw_below_drewN | apply below_drew1 | refine below_set ?_ GE191.out) | exact HB.out)⟩
               ·rw [if_neg c56] at H
                exact absurd H (by simp)
              ·rw [if_neg c55] at H
               exact absurd H (by simp)
             ·rw [if_neg c54] at H
              have c54b0 : decide (0 < t196) = false := decide_eq_false c54
              clear c54
              obtain rfl := Option.some.inj H
              go_wp2_with (first | ((with_reducible refine gate_callee (f := 137) rfl ?_); refine goesL_ (some 71) rfl rfl Try.func137 (by kernel_rfl) rfl #[.slice (some ad190) l0.length c0, .string (⟨#[49, 50, 51, 112, 105]⟩ : ByteArray)] rfl (by (try simp only [List.map_toArray, List.map_cons, List.map_nil]); first | done | rfl | (simp only [List.length_drop, List.length_take]; rfl)) ?_; (with_reducible refine (stylusref04_last.calls kj38 _ _ l0 (⟨#[49, 50, 51, 112, 105]⟩ : ByteArray) t196 _ ?side1 ?side2 A51.out).mono ?_); (case side1 => repeat (first | exact (Kd.C_below HR0.out HB.out) | (with_reducible refine Kd.C_alloc ?_ _) | (with_reducible refine Kd.C_drewN ?_ _) | (with_reducible refine Kd.C_drew ?_))); (case side2 => exact HC0.out); rintro e w' ⟨rfl, ⟨nd, rfl⟩⟩; refine ⟨_, rfl, ?_⟩) | ((with_reducible refine gate_callee (f := 139) rfl ?_); refine goesL_ (some 73) rfl rfl Try.func139 (by kernel_rfl) rfl #[.slice (some ad190) l0.length c0, .int .u8 99] rfl (by (try simp only [List.map_toArray, List.map_cons, List.map_nil]); first | done | rfl | (simp only [List.length_drop, List.length_take]; rfl)) ?_; (with_reducible refine (stylusref04_many.calls kj38 _ _ l0 99 t197 _ ?side1 ?side2 A52.out).mono ?_); (case side1 => repeat (first | exact (Kd.C_below HR0.out (by repeat (first | (with_reducible first | exact HB.out | apply below_alloc | apply pw_below_drewN | apply below_drew1 | refine below_set ?_ GE191.out) | exact HB.out))) | (with_reducible refine Kd.C_alloc ?_ _) | (with_reducible refine Kd.C_drewN ?_ _) | (with_reducible refine Kd.C_drew ?_))); (case side2 => exact HC0.out); rintro e w' ⟨rfl, ⟨nd, rfl⟩⟩; refine ⟨_, rfl, ?_⟩))
              go_ret
              exact ⟨by first | rfl | (simp [errW_none, errW_some] <;> rfl) | (simp only [← hji3]; first | rfl | (simp [errW_none, errW_some] <;> rfl)) | (simp [*, errW_none, errW_some] <;> rfl), by repeat (first | (with_reducible first | exact HB.out | apply below_alloc | apply pw_below_drewN | apply below_drew1 | refine below_set ?_ GE191.out) | exact HB.out)⟩
            ·rw [if_neg c53] at H
             have c53b0 : (t197 == 0) = false := beq_eq_false_iff_ne.mpr c53
             have c53b1 : (t197 != 0) = true := bne_iff_ne.mpr c53
             obtain rfl := Option.some.inj H
             go_wp2_with (first | ((with_reducible refine gate_callee (f := 137) rfl ?_); refine goesL_ (some 71) rfl rfl Try.func137 (by kernel_rfl) rfl #[.slice (some ad190) l0.length c0, .string (⟨#[49, 50, 51, 112, 105]⟩ : ByteArray)] rfl (by (try simp only [List.map_toArray, List.map_cons, List.map_nil]); first | done | rfl | (simp only [List.length_drop, List.length_take]; rfl)) ?_; (with_reducible refine (stylusref04_last.calls kj38 _ _ l0 (⟨#[49, 50, 51, 112, 105]⟩ : ByteArray) t196 _ ?side1 ?side2 A51.out).mono ?_); (case side1 => repeat (first | exact (Kd.C_below HR0.out HB.out) | (with_reducible refine Kd.C_alloc ?_ _) | (with_reducible refine Kd.C_drewN ?_ _) | (with_reducible refine Kd.C_drew ?_))); (case side2 => exact HC0.out); rintro e w' ⟨rfl, ⟨nd, rfl⟩⟩; refine ⟨_, rfl, ?_⟩) | ((with_reducible refine gate_callee (f := 139) rfl ?_); refine goesL_ (some 73) rfl rfl Try.func139 (by kernel_rfl) rfl #[.slice (some ad190) l0.length c0, .int .u8 99] rfl (by (try simp only [List.map_toArray, List.map_cons, List.map_nil]); first | done | rfl | (simp only [List.length_drop, List.length_take]; rfl)) ?_; (with_reducible refine (stylusref04_many.calls kj38 _ _ l0 99 t197 _ ?side1 ?side2 A52.out).mono ?_); (case side1 => repeat (first | exact (Kd.C_below HR0.out (by repeat (first | (with_reducible first | exact HB.out | apply below_alloc | apply pw_below_drewN | apply below_drew1 | refine below_set ?_ GE191.out) | exact HB.out))) | (with_reducible refine Kd.C_alloc ?_ _) | (with_reducible refine Kd.C_drewN ?_ _) | (with_reducible refine Kd.C_drew ?_))); (case side2 => exact HC0.out); rintro e w' ⟨rfl, ⟨nd, rfl⟩⟩; refine ⟨_, rfl, ?_⟩))
             go_ret
             exact ⟨by first | rfl | (simp [errW_none, errW_some] <;> rfl) | (simp only [← hji3]; first | rfl | (simp [errW_none, errW_some] <;> rfl)) | (simp [*, errW_none, errW_some] <;> rfl), by repeat (first | (with_reducible first | exact HB.out | apply below_alloc | apply pw_below_drewN | apply below_drew1 | refine below_set ?_ GE191.out) | exact HB.out)⟩
           ·rw [if_neg c50] at H
            have c50b0 : (a1 == 110) = false := beq_eq_false_iff_ne.mpr c50
            have c50b1 : (a1 != 110) = true := bne_iff_ne.mpr c50
            obtain rfl := Option.some.inj H
            go_wp2
            go_ret
            exact ⟨by first | rfl | (simp [errW_none, errW_some] <;> rfl) | (simp only [← hji3]; first | rfl | (simp [errW_none, errW_some] <;> rfl)) | (simp [*, errW_none, errW_some] <;> rfl), by repeat (first | (with_reducible first | exact HB.out | apply below_alloc | apply pw_below_drewN | apply below_drew1 | refine below_set ?_ GE191.out) | exact HB.out)⟩
  ·rw [if_neg c5] at H
   exact absurd H (by simp)
 ·rw [if_neg c4] at H
  exact absurd H (by simp)
end Go.Proofs.Ythcmfjpheanphaa.Pr
namespace Go.Proofs.Ythcmfjpheanphaa.Pr
open Go.RowKit Go.Proofs.YthcmfjpheanphaaW.PrintWords
theorem wrap_s {n : Nat} (h : n ≤ 9000000) : wrap64 ((n : Int) + 1) = ((n + 1 : Nat) : Int) := by
 rw [show (n : Int) + 1 = ((n + 1 : Nat) : Int) from by omega]
 exact IntWalk.wrap64_in _ ⟨by omega, by omega⟩
theorem wrap_p (n : Nat) (h : n ≤ 9000000) : wrap64 (((n + 1 : Nat) : Int) - 1) = (n : Int) := by
 rw [show ((n + 1 : Nat) : Int) - 1 = (n : Int) from by omega]
 exact IntWalk.wrap64_in _ ⟨by omega, by omega⟩
def inFrom (b : Int) (s : ByteArray) : Nat → Nat → Bool
 | 0, _ => false
 | d + 1, i => if i < s.size then (if bt s i = b then true else inFrom b s d (i + 1)) else false
def inB (b : Int) (s : ByteArray) : Bool := inFrom b s s.size 0
theorem in_loop (b : Int) (s : ByteArray) (hs : s.size ≤ 9000000) : ∀ (d i k : Nat), d + i = s.size → d + 1 ≤ k → stylusref04_in.l0 k b s i = some (inFrom b s d i)
 | 0, i, k, h, hk => by
  obtain ⟨k, rfl⟩ : ∃ q, k = q + 1 := ⟨k - 1, by omega⟩
  rw [stylusref04_in.l0, if_neg (by omega)]
  rfl
 | d + 1, i, k, h, hk => by
  obtain ⟨k, rfl⟩ : ∃ q, k = q + 1 := ⟨k - 1, by omega⟩
  rw [stylusref04_in.l0, if_pos (by omega), if_pos (by omega)]
  simp only [inFrom]
  rw [if_pos (show i < s.size by omega)]
  by_cases hb : bt s (i : Int) = b
  ·rw [if_pos hb, if_pos hb]
  ·rw [if_neg hb, if_neg hb, wrap_s (by omega)]
   exact in_loop b s hs d (i + 1) k (by omega) (by omega)
theorem in_f (b : Int) (s : ByteArray) (hs : s.size ≤ 9000000) (k : Nat) (hk : s.size + 1 ≤ k) : stylusref04_in.f k b s = some (inB b s) :=
 in_loop b s hs s.size 0 k (by omega) hk
def lastR (ks : ByteArray) (r : List S159) : Nat → Int
 | 0 => -1
 | n + 1 => if inB (rd_T159 r ((n + 1 : Nat) : Int)).f0 ks = true then ((n + 1 : Nat) : Int) else lastR ks r n
theorem last_loop (ks : ByteArray) (hs : ks.size ≤ 100) (r : List S159) (hr : r.length ≤ 9000000) : ∀ (n k : Nat), n < r.length → n + 102 ≤ k → stylusref04_last.l0 k r ks n = some (lastR ks r n)
 | 0, k, h, hk => by
  obtain ⟨k, rfl⟩ : ∃ q, k = q + 1 := ⟨k - 1, by omega⟩
  rw [stylusref04_last.l0, if_neg (by omega)]
  rfl
 | n + 1, k, h, hk => by
  obtain ⟨k, rfl⟩ : ∃ q, k = q + 1 := ⟨k - 1, by omega⟩
  rw [stylusref04_last.l0, if_pos (by omega), if_pos (by omega), if_pos (by omega), in_f _ _ (by omega) _ (by omega), Option.bind_some]
  simp only [lastR]
  by_cases hb : inB (rd_T159 r ((n + 1 : Nat) : Int)).f0 ks = true
  ·rw [if_pos hb, if_pos hb]
  ·rw [if_neg hb, if_neg hb, wrap_p n (by omega)]
   exact last_loop ks hs r hr n k (by omega) (by omega)
def lastP (ks : ByteArray) (r : List S159) : Int := lastR ks r (r.length - 1)
theorem last_f (ks : ByteArray) (hs : ks.size ≤ 100) (r : List S159) (hr : r.length ≤ 9000000) (h0 : 0 < r.length) (k : Nat) (hk : r.length + 102 ≤ k) : stylusref04_last.f k r ks = some (lastP ks r) := by
 unfold stylusref04_last.f lastP
 obtain ⟨n, hn⟩ : ∃ n, r.length = n + 1 := ⟨r.length - 1, by omega⟩
 rw [hn, wrap_p n (by omega), Nat.add_sub_cancel]
 exact last_loop ks hs r hr n k (by omega) (by omega)
def manyR (b : Int) (r : List S159) : Nat → Nat → Nat
 | 0, _ => 0
 | d + 1, i => (if (rd_T159 r i).f0 = b then 1 else 0) + manyR b r d (i + 1)
def manyP (b : Int) (r : List S159) : Nat := manyR b r (r.length - 1) 1
theorem many_loop (b : Int) (r : List S159) (hr : r.length ≤ 9000000) : ∀ (d i k n : Nat), d + i = r.length → n ≤ i → d + 1 ≤ k → stylusref04_many.l0 k r b n i = some ((n + manyR b r d i : Nat) : Int)
 | 0, i, k, n, h, hn, hk => by
  obtain ⟨k, rfl⟩ : ∃ q, k = q + 1 := ⟨k - 1, by omega⟩
  rw [stylusref04_many.l0, if_neg (by omega)]
  rfl
 | d + 1, i, k, n, h, hn, hk => by
  obtain ⟨k, rfl⟩ : ∃ q, k = q + 1 := ⟨k - 1, by omega⟩
  rw [stylusref04_many.l0, if_pos (by omega), if_pos (by omega)]
  simp only [manyR]
  by_cases hb : (rd_T159 r (i : Int)).f0 = b
  ·rw [if_pos hb, if_pos hb, wrap_s (by omega), wrap_s (by omega), many_loop b r hr d (i + 1) k (n + 1) (by omega) (by omega) (by omega)]
   congr 2
   omega
  ·rw [if_neg hb, if_neg hb, wrap_s (by omega), many_loop b r hr d (i + 1) k n (by omega) (by omega) (by omega)]
   congr 2
   omega
theorem many_f (b : Int) (r : List S159) (hr : r.length ≤ 9000000) (h0 : 0 < r.length) (k : Nat) (hk : r.length + 1 ≤ k) : stylusref04_many.f k r b = some (manyP b r : Int) := by
 unfold stylusref04_many.f manyP
 have := many_loop b r hr (r.length - 1) 1 k 0 (by omega) (by omega) (by omega)
 rw [Nat.zero_add] at this
 exact this
def topR (r : List S159) : S159 := rd_T159 r ((r.length - 1 : Nat) : Int)
def flowB : ByteArray := ⟨#[49, 50, 51, 112, 99, 110, 101, 115]⟩
def textsR (r : List S159) : Bool := if inB (topR r).f0 flowB = true then true else if (topR r).f0 = 105 then !inB 108 (topR r).f1 else false
theorem texts_f (r : List S159) (hr : r.length ≤ 9000000) (h0 : 0 < r.length) (ht : (topR r).f1.size ≤ 9000000) (k : Nat) (hk : (topR r).f1.size + 101 ≤ k) : stylusref04_Texts.f k r = some (textsR r) := by
 unfold stylusref04_Texts.f textsR topR at *
 obtain ⟨n, hn⟩ : ∃ n, r.length = n + 1 := ⟨r.length - 1, by omega⟩
 rw [hn, wrap_p n (by omega)]
 rw [hn, Nat.add_sub_cancel] at ht hk
 rw [Nat.add_sub_cancel, if_pos (by omega), if_pos (by omega)]
 rw [in_f _ ⟨#[49, 50, 51, 112, 99, 110, 101, 115]⟩ (by decide) k (by show 8 + 1 ≤ k; omega), Option.bind_some]
 show (if inB _ flowB = true then _ else _) = _
 by_cases h1 : inB (rd_T159 r (n : Int)).f0 flowB = true
 ·rw [if_pos h1, if_pos h1]
 ·rw [if_neg h1, if_neg h1]
  by_cases h2 : (rd_T159 r (n : Int)).f0 = 105
  ·rw [if_pos h2, if_pos h2, in_f _ _ ht k (by omega), Option.bind_some]
  ·rw [if_neg h2, if_neg h2]
structure RSt where
 t : List S56
 r : List S159
def dotB : ByteArray := ⟨#[46]⟩
def kidR (b : ByteArray) (x : S159) : S159 := { x with f1 := x.f1 ++ b }
def textR (b : ByteArray) (x : S159) : S159 := { x with f5 := x.f5 ++ b }
def noteR (x : S159) : S159 := { x with f3 := x.f3 + 1 }
def colR (n : Int) (x : S159) : S159 := { x with f4 := n }
def nB : ByteArray := ⟨#[110]⟩
def flowsB : ByteArray := ⟨#[49, 50, 51, 112, 105]⟩
def byteB (k : Int) : ByteArray := ⟨#[k.toNat.toUInt8]⟩
def addText (b : ByteArray) (r : List S159) : List S159 := if 0 < lastP nB r then r.modify (lastP nB r).toNat (textR b) else r
def addNote (k : Int) (r : List S159) : List S159 := if k = 110 then r.modify (mx (lastP flowsB r) 0).toNat noteR else r
def addCols (r : List S159) : List S159 := if (topR r).f0 = 114 ∧ (rd_T159 r ((r.length - 2 : Nat) : Int)).f4 = 0 then r.modify (r.length - 2) (colR (topR r).f1.size) else r
def rstep (s : RSt) (x : S47) : Option RSt :=
 if x.f0 = 1 then
  (if textsR s.r = true then some ⟨s.t ++ [⟨46, x.f2, x.f3, 1⟩], addText x.f2 (s.r.modify (s.r.length - 1) (kidR dotB))⟩ else some s)
 else if x.f0 = 2 then some ⟨s.t ++ [⟨x.f1, ⟨#[]⟩, x.f3, 1⟩], addNote x.f1 (s.r.modify (s.r.length - 1) (kidR (byteB x.f1))) ++ [⟨x.f1, ⟨#[]⟩, s.t.length, 0, 0, ⟨#[]⟩⟩]⟩
 else if 2 ≤ s.r.length ∧ 0 ≤ (topR s.r).f2 ∧ (topR s.r).f2 < s.t.length then some ⟨s.t.modify (topR s.r).f2.toNat (sizeF (s.t.length - (topR s.r).f2)), (addCols s.r).dropLast⟩
 else none
def readP : RSt → List S47 → Option RSt
 | s, [] => some s
 | s, x :: l => (rstep s x).bind fun s' => readP s' l
def read0 : RSt := ⟨[], [z159]⟩
end Go.Proofs.Ythcmfjpheanphaa.Pr
namespace Go.Proofs.Ythcmfjpheanphaa.Pr
open Go.RowKit Go.Proofs.Ythcmfjpheanphaa.Pure Go.Proofs.YthcmfjpheanphaaW.PrintWords
def ltrB : ByteArray := ⟨#[108, 116, 114]⟩
def stepR (o : Bool) (u : RSt) (x : S47) : Int × Int :=
 if x.f0 = 1 then
  (if textsR u.r = true then (if 2000 ≤ u.t.length then (x.f3, 4) else if 0 < lastP nB u.r then (if 60 < wrap64 (((rd_T159 u.r (lastP nB u.r)).f5.size : Int) + x.f2.size) then (x.f3, 4) else (0, 0)) else (0, 0))
   else if blackP x.f2 x.f2.size 0 < x.f2.size then (wrap64 (x.f3 + blackP x.f2 x.f2.size 0), 2) else (0, 0))
 else if x.f0 = 2 then
  (if o = true then (if 32 < u.r.length ∨ (x.f1 = 108 ∧ 8 ≤ manyP 108 u.r) then (x.f3, 5) else if 2000 ≤ u.t.length then (x.f3, 4) else (0, 0)) else (x.f3, 2))
 else if u.r.length = 1 ∨ (inB (topR u.r).f0 ltrB = true ∧ (topR u.r).f1.size = 0) then (x.f3, 2)
 else if (topR u.r).f0 = 114 then (if 0 < (rd_T159 u.r ((u.r.length - 2 : Nat) : Int)).f4 then (if (rd_T159 u.r ((u.r.length - 2 : Nat) : Int)).f4 = (topR u.r).f1.size then (0, 0) else (x.f3, 2)) else (0, 0))
 else (0, 0)
theorem lastR_range' (ks : ByteArray) (r : List S159) : lastP ks r < (r.length : Int) ∨ lastP ks r ≤ 0 := by
 have go : ∀ n : Nat, lastR ks r n ≤ n := by
  intro n
  induction n with
  | zero => show (-1 : Int) ≤ _; omega
  | succ n ih => simp only [lastR]; split <;> omega
 have := go (r.length - 1)
 unfold lastP
 omega
theorem empty_list (b : ByteArray) : (b.toList == ([] : List UInt8)) = decide (b.size = 0) := by
 have h := empty_size b
 rw [← h]
 cases b.toList <;> rfl
end Go.Proofs.Ythcmfjpheanphaa.Pr
