/- Small laws that the walks by hand share; no program in sight. -/
import Derived.WalkKit
import Derived.Lib.Hide
namespace Go.Det
open Go Go.RowKit
/-- a piece of a text -/
theorem sl_str {P : Program} {t : TypeId} (h : P.underlying t = some .string) (s : ByteArray) (i j : Nat) (hij : i ≤ j) (hj : j ≤ s.size) {a b : Int} (ha : a = i) (hb : b = j) (w : World) :
    (Instr.slice t (.string s) (some (.int .i64 a)) (some (.int .i64 b)) none).run P w = .ok (.string (s.extract i j)) w := by
  subst ha; subst hb
  have := run_slice_string (P := P) (w := w) t s .i64 .i64 (i : Int) (j : Int) h (by omega) (by omega) (by omega)
  simpa using this
theorem sl_strh {P : Program} {t : TypeId} (h : P.underlying t = some .string) (s : ByteArray) (j : Nat) (hj : j ≤ s.size) (w : World) :
    (Instr.slice t (.string s) none (some (.int .i64 (j : Int))) none).run P w = .ok (.string (s.extract 0 j)) w := by
  simp [Instr.slice, Instr.sliceBounds, Instr.sliceBound, asIntOf, run_underlying h, hj]
theorem sl_strl {P : Program} {t : TypeId} (h : P.underlying t = some .string) (s : ByteArray) (i : Nat) (hi : i ≤ s.size) (w : World) :
    (Instr.slice t (.string s) (some (.int .i64 (i : Int))) none none).run P w = .ok (.string (s.extract i s.size)) w := by
  simp [Instr.slice, Instr.sliceBounds, Instr.sliceBound, asIntOf, run_underlying h, hi]
/-- a text that is not empty -/
theorem ne_str {p : ByteArray} (h : 0 < p.size) : p.toList.isEmpty = false := by
  rw [ByteArray.toList_eq]
  have h1 : 0 < p.data.toList.length := by simpa using h
  cases hp : p.data.toList with
  | nil => rw [hp] at h1; simp at h1
  | cons a l => rfl
/-- a row written anew, beyond B -/
theorem below_setRow {B : Nat} {w W : World} (h : Below B w W) {g : Nat} (hg : B ≤ g) (cs : Array Value) : Below B w (W.setRow g cs) :=
  h.trans ⟨rfl, rfl, rfl, by simp [World.setRow], fun k hk => by simp only [World.setRow, Array.getElem?_modify]; rw [if_neg (by omega)]⟩
end Go.Det
