/- Texts of this seat, one behind the other. -/
import Derived.Test.YtbddfnmhhmkfkaaProg
import Derived.Below
import Derived.Deep.Draws
import Derived.Deep.AppendLies
import Derived.Maps.AppendAt
import Derived.OwnWalk
import Derived.Laws.BytesArg
import Derived.Laws.MakeOwn
import Derived.Laws.OwnMore
import Derived.Deep.OwnRows
import Derived.Tactics
import Derived.Lib.ConvBytes
import Derived.Laws.Slices
import Derived.WalkKit
import Derived.KernelRfl
import Derived.RowKit3
import Derived.Deep.LoopGhost
import Derived.Deep.QuietTactic
import Derived.BigQuiet
import Derived.WideLaws
import Derived.Deep.DeepCutAuto
import Derived.Deep.CutBlock
import Derived.Deep.RegionHeld3
import Derived.Laws.Rows
import Derived.Lib.AppendStr
import Derived.ArgAppend
import Derived.Laws.IdiomCopy
import Derived.OrdersHeld
import Derived.Laws.BitsLemmas
import Derived.RowKit
import Derived.Test.YtbddfnmhhmkfkaaWWords
import Derived.Test.YtbddfnmhhmkfkaaWLast
import Derived.Test.YtbddfnmhhmkfkaaWTab
import Derived.Test.YtbddfnmhhmkfkaaWQPut
import Derived.Test.YtbddfnmhhmkfkaaWApart
import Derived.Test.YtbddfnmhhmkfkaaWArr
import Derived.Test.YtbddfnmhhmkfkaaWZeros
import Derived.Test.YtbddfnmhhmkfkaaWFoot
import Derived.Test.YtbddfnmhhmkfkaaWKept
import Derived.Test.YtbddfnmhhmkfkaaWShare
import Derived.Test.YtbddfnmhhmkfkaaWN
import Derived.Test.YtbddfnmhhmkfkaaWFootNe
import Derived.Test.YtbddfnmhhmkfkaaWAt
import Derived.Test.YtbddfnmhhmkfkaaWEqStruct
import Derived.Test.YtbddfnmhhmkfkaaWRepsOne
import Derived.Test.YtbddfnmhhmkfkaaWInv
import Derived.Test.YtbddfnmhhmkfkaaWInvWords
import Derived.Test.YtbddfnmhhmkfkaaWGuard
import Derived.Test.YtbddfnmhhmkfkaaWNEv
import Derived.Test.YtbddfnmhhmkfkaaWMore
import Derived.Deep.Slices
import Derived.Deep.Fields
import Derived.ChangeSame
import Derived.SizedLaws
import Derived.ChangeSlices
import Derived.Orders
import Derived.Deep.RegionHeld
import Derived.Lib.Hide
import Derived.RangeFuncBox
namespace Go.Proofs.Ytbddfnmhhmkfkaa.Pr
open Go.RowKit Go.Proofs.YtbddfnmhhmkfkaaW.PrintWords Go.Proofs.YtbddfnmhhmkfkaaW.PrintLast Go.Proofs.YtbddfnmhhmkfkaaW.PrintMore
attribute [local go_sem] max2_int min2_int max_two min_two max_three min_three max_four min_four
set_option linter.unusedVariables false
set_option linter.unusedSimpArgs false
def errW : Option Int → Value
 | none => .nilIface
 | some c => .iface 0 (.int .i64 c)
theorem errW_none : errW none = .nilIface := rfl
theorem errW_some (c : Int) : errW (some c) = .iface 0 (.int .i64 c) := rfl
theorem info3 : (Try.prog.info? 3).map (fun i => (i.zero, i.size, i.bytes)) = some (some (.int .i64 0), 1, 8) := by kernel_rfl
theorem info43 : (Try.prog.info? 43).map (fun i => (i.zero, i.size, i.bytes)) = some (some (.agg #[(.int .i64 0), (.int .i64 0), (.int .i64 0), (.int .i64 0), (.int .i64 0)]), 5, 40) := by kernel_rfl
structure S43 where
 f0 : Int
 f1 : Int
 f2 : Int
 f3 : Int
 f4 : Int
def z43 : S43 := ⟨(0 : Int), (0 : Int), (0 : Int), (0 : Int), (0 : Int)⟩
def k43 : Kd S43 := Kd.iso (Kd.pair (Kd.int .i64) (Kd.pair (Kd.int .i64) (Kd.pair (Kd.int .i64) (Kd.pair (Kd.int .i64) (Kd.int .i64))))) (fun x : S43 => (x.f0, x.f1, x.f2, x.f3, x.f4))
theorem k43_open {w : World} {x : S43} {cs : List Value} (h : k43.K w x cs) : cs = [.int .i64 x.f0, .int .i64 x.f1, .int .i64 x.f2, .int .i64 x.f3, .int .i64 x.f4] := by
 obtain ⟨_, _, rfl, rfl, ⟨_, _, rfl, rfl, ⟨_, _, rfl, rfl, ⟨_, _, rfl, rfl, rfl⟩⟩⟩⟩ := h
 exact rfl
theorem k43_mk (w : World) (x : S43)  : k43.K w x [.int .i64 x.f0, .int .i64 x.f1, .int .i64 x.f2, .int .i64 x.f3, .int .i64 x.f4] := ⟨[.int .i64 x.f0], [.int .i64 x.f1, .int .i64 x.f2, .int .i64 x.f3, .int .i64 x.f4], rfl, rfl, ⟨[.int .i64 x.f1], [.int .i64 x.f2, .int .i64 x.f3, .int .i64 x.f4], rfl, rfl, ⟨[.int .i64 x.f2], [.int .i64 x.f3, .int .i64 x.f4], rfl, rfl, ⟨[.int .i64 x.f3], [.int .i64 x.f4], rfl, rfl, rfl⟩⟩⟩⟩
theorem k43_mkM (w : World) (base : Nat) (ok : Nat → Prop) (x : S43)  : k43.M w base ok x [.int .i64 x.f0, .int .i64 x.f1, .int .i64 x.f2, .int .i64 x.f3, .int .i64 x.f4] := ⟨[.int .i64 x.f0], [.int .i64 x.f1, .int .i64 x.f2, .int .i64 x.f3, .int .i64 x.f4], rfl, rfl, ⟨[.int .i64 x.f1], [.int .i64 x.f2, .int .i64 x.f3, .int .i64 x.f4], rfl, rfl, ⟨[.int .i64 x.f2], [.int .i64 x.f3, .int .i64 x.f4], rfl, rfl, ⟨[.int .i64 x.f3], [.int .i64 x.f4], rfl, rfl, rfl⟩⟩⟩⟩
def rd_T43 (xs : List S43) (i : Int) : S43 := xs.getD i.toNat z43
theorem at_T43 {w : World} {A : Option Addr} {n : Nat} {xs : List S43} (h : Kd.C k43 w A n xs) (i : Int) (h0 : 0 ≤ i) (h1 : i < n) : ∃ ad , A = some ad ∧ w.cell? (ad.add (i.toNat * 5)) = some (.int .i64 (rd_T43 xs i).f0) ∧ w.cell? ⟨(ad.add (i.toNat * 5)).block, (ad.add (i.toNat * 5)).off + 1, none⟩ = some (.int .i64 (rd_T43 xs i).f1) ∧ w.cell? ⟨(ad.add (i.toNat * 5)).block, (ad.add (i.toNat * 5)).off + 2, none⟩ = some (.int .i64 (rd_T43 xs i).f2) ∧ w.cell? ⟨(ad.add (i.toNat * 5)).block, (ad.add (i.toNat * 5)).off + 3, none⟩ = some (.int .i64 (rd_T43 xs i).f3) ∧ w.cell? ⟨(ad.add (i.toNat * 5)).block, (ad.add (i.toNat * 5)).off + 4, none⟩ = some (.int .i64 (rd_T43 xs i).f4) := by
 obtain ⟨ad, c, e, _, hK, hc0⟩ := Kd.C_get h z43 i h0 h1
 have hc : ∀ j u, c[j]? = some u → w.cell? (ad.add (i.toNat * 5 + j)) = some u := hc0
 obtain rfl := k43_open hK
 exact ⟨ad, e, hc 0 _ rfl, by rw [← add_field _ _ 1 (by omega)]; exact hc 1 _ rfl, by rw [← add_field _ _ 2 (by omega)]; exact hc 2 _ rfl, by rw [← add_field _ _ 3 (by omega)]; exact hc 3 _ rfl, by rw [← add_field _ _ 4 (by omega)]; exact hc 4 _ rfl⟩
def rd_L2 (xs : List (List S43)) (i : Int) : (List S43) := xs.getD i.toNat ([] : List S43)
structure S85 where
 f0 : Int
 f1 : Int
 f2 : Int
def z85 : S85 := ⟨(0 : Int), (0 : Int), (0 : Int)⟩
def k85 : Kd S85 := Kd.iso (Kd.pair (Kd.int .i64) (Kd.pair (Kd.int .i64) (Kd.int .i64))) (fun x : S85 => (x.f0, x.f1, x.f2))
theorem k85_open {w : World} {x : S85} {cs : List Value} (h : k85.K w x cs) : cs = [.int .i64 x.f0, .int .i64 x.f1, .int .i64 x.f2] := by
 obtain ⟨_, _, rfl, rfl, ⟨_, _, rfl, rfl, rfl⟩⟩ := h
 exact rfl
theorem k85_mkM (w : World) (base : Nat) (ok : Nat → Prop) (x : S85)  : k85.M w base ok x [.int .i64 x.f0, .int .i64 x.f1, .int .i64 x.f2] := ⟨[.int .i64 x.f0], [.int .i64 x.f1, .int .i64 x.f2], rfl, rfl, ⟨[.int .i64 x.f1], [.int .i64 x.f2], rfl, rfl, rfl⟩⟩
def rd_T85 (xs : List S85) (i : Int) : S85 := xs.getD i.toNat z85
theorem at_T85 {w : World} {A : Option Addr} {n : Nat} {xs : List S85} (h : Kd.C k85 w A n xs) (i : Int) (h0 : 0 ≤ i) (h1 : i < n) : ∃ ad , A = some ad ∧ w.cell? (ad.add (i.toNat * 3)) = some (.int .i64 (rd_T85 xs i).f0) ∧ w.cell? ⟨(ad.add (i.toNat * 3)).block, (ad.add (i.toNat * 3)).off + 1, none⟩ = some (.int .i64 (rd_T85 xs i).f1) ∧ w.cell? ⟨(ad.add (i.toNat * 3)).block, (ad.add (i.toNat * 3)).off + 2, none⟩ = some (.int .i64 (rd_T85 xs i).f2) := by
 obtain ⟨ad, c, e, _, hK, hc0⟩ := Kd.C_get h z85 i h0 h1
 have hc : ∀ j u, c[j]? = some u → w.cell? (ad.add (i.toNat * 3 + j)) = some u := hc0
 obtain rfl := k85_open hK
 exact ⟨ad, e, hc 0 _ rfl, by rw [← add_field _ _ 1 (by omega)]; exact hc 1 _ rfl, by rw [← add_field _ _ 2 (by omega)]; exact hc 2 _ rfl⟩
def rd_L4 (xs : List (List Int)) (i : Int) : (List Int) := xs.getD i.toNat ([] : List Int)
end Go.Proofs.Ytbddfnmhhmkfkaa.Pr
namespace Go.Proofs.Ytbddfnmhhmkfkaa.Pr
set_option linter.unusedVariables false
open Go.RowKit Go.ChangeShapes Go.WideShapes Go.Deep Go.Proofs.YtbddfnmhhmkfkaaW.PrintWords
section
variable {H : Type} {enc : TypeId × Value → H} {w : World} {base : Nat} {spare : Nat → Bool} {held : Bool}
theorem cells43 : Try.prog.cellsOf 43 = 5 := by kernel_rfl
theorem cells3 : Try.prog.cellsOf 3 = 1 := by kernel_rfl
theorem bytes43 : Try.prog.bytesOf 43 = 40 := by kernel_rfl
set_option maxRecDepth 100000 in
theorem item_open {n : Nat} {cs : List Value} {y : DataW H × List MemPlace} (h : DataW.trod enc Try.prog w base spare held n 43 cs = some y) :
  ∃ x : S43, cs = [.int .i64 x.f0, .int .i64 x.f1, .int .i64 x.f2, .int .i64 x.f3, .int .i64 x.f4] := by
 obtain ⟨ys, m, rfl, _, hlen, hyl, hf⟩ := DataW.trod_struct Try.underlying43 h
 rw [cells43] at hlen
 match cs, hlen with
 | [c0, c1, c2, c3, c4], _ =>
  match ys, hyl with
  | [y0, y1, y2, y3, y4], _ =>
   have g0 : DataW.trod enc Try.prog w base spare held m 3 (([c0, c1, c2, c3, c4].drop 0).take (Try.prog.cellsOf 3)) = some y0 := hf 0 _ rfl
   have g1 : DataW.trod enc Try.prog w base spare held m 3 (([c0, c1, c2, c3, c4].drop 1).take (Try.prog.cellsOf 3)) = some y1 := hf 1 _ rfl
   have g2 : DataW.trod enc Try.prog w base spare held m 3 (([c0, c1, c2, c3, c4].drop 2).take (Try.prog.cellsOf 3)) = some y2 := hf 2 _ rfl
   have g3 : DataW.trod enc Try.prog w base spare held m 3 (([c0, c1, c2, c3, c4].drop 3).take (Try.prog.cellsOf 3)) = some y3 := hf 3 _ rfl
   have g4 : DataW.trod enc Try.prog w base spare held m 3 (([c0, c1, c2, c3, c4].drop 4).take (Try.prog.cellsOf 3)) = some y4 := hf 4 _ rfl
   rw [cells3] at g0 g1 g2 g3 g4
   obtain ⟨n0, e0, _⟩ := DataW.trod_int Try.underlying3 g0
   obtain ⟨n1, e1, _⟩ := DataW.trod_int Try.underlying3 g1
   obtain ⟨n2, e2, _⟩ := DataW.trod_int Try.underlying3 g2
   obtain ⟨n3, e3, _⟩ := DataW.trod_int Try.underlying3 g3
   obtain ⟨n4, e4, _⟩ := DataW.trod_int Try.underlying3 g4
   simp at e0 e1 e2 e3 e4
   exact ⟨⟨n0, n1, n2, n3, n4⟩, by rw [e0, e1, e2, e3, e4]⟩
set_option maxRecDepth 100000 in
theorem open_S {a : Option Addr} {len cap : Nat} {d : DataW H} {ps : List MemPlace} {ts : List TypeId} {ds : List (DataW H)} {j : Nat}
  (hsz : (DataW.weightsEach Try.prog ts ds).all (· ≤ reachBytes) = true) (ht : ts[j]? = some 22) (hd : ds[j]? = some d)
  (h : DataW.Trod enc Try.prog w base spare held 22 (.slice a len cap) d ps) :
  ∃ l : List S43, len = l.length ∧ Kd.C k43 w a l.length l ∧ l.length ≤ cap ∧ l.length * 40 ≤ 140737488351232 := by
 obtain ⟨fuel, hf⟩ := h
 rcases open_slice Try.underlying22 hf with ⟨hcs, _⟩ | ⟨x, len', cap', m, n, D, Pl, hcs, _, hl, hcm, hm, hx, hi⟩
 ·simp [Value.cells] at hcs
  obtain ⟨rfl, rfl, rfl⟩ := hcs
  exact ⟨[], rfl, ⟨rfl, by simp, fun h => absurd h (by simp)⟩, Nat.le_refl _, by simp⟩
 ·simp [Value.cells] at hcs
  obtain ⟨rfl, rfl, rfl⟩ := hcs
  obtain ⟨hx1, _⟩ := Prod.mk.inj hx
  subst hx1
  have z := sized_slice hsz ht hd Try.underlying22
  rw [bytes43] at z
  have hlm : len ≤ m := by rw [hm]; split <;> omega
  have hit : ∀ i, i < len → ∃ y : S43, ∀ k u, [Value.int .i64 y.f0, .int .i64 y.f1, .int .i64 y.f2, .int .i64 y.f3, .int .i64 y.f4][k]? = some u → w.cell? (x.add (i * 5 + k)) = some u := fun i hil => by
   obtain ⟨cs', hc, htr⟩ := hi i (by omega)
   rw [cells43] at hc
   obtain ⟨y, rfl⟩ := item_open htr
   obtain ⟨_, _, hat⟩ := World.cells?_some hc
   refine ⟨y, fun k u hk => ?_⟩
   have hk5 : k < 5 := by
    have := (List.getElem?_eq_some_iff.1 hk).1
    simpa using this
   have := hat k hk5
   rw [hk, Go.Deep.add_add] at this
   exact this
  let f : Nat → S43 := fun i => if hil : i < len then (hit i hil).choose else z43
  have hfs : ∀ i, i < len → ∀ k u, [Value.int .i64 (f i).f0, .int .i64 (f i).f1, .int .i64 (f i).f2, .int .i64 (f i).f3, .int .i64 (f i).f4][k]? = some u → w.cell? (x.add (i * 5 + k)) = some u := fun i hil => by
   show ∀ k u, [Value.int .i64 (if hil : i < len then (hit i hil).choose else z43).f0, .int .i64 (if hil : i < len then (hit i hil).choose else z43).f1, .int .i64 (if hil : i < len then (hit i hil).choose else z43).f2, .int .i64 (if hil : i < len then (hit i hil).choose else z43).f3, .int .i64 (if hil : i < len then (hit i hil).choose else z43).f4][k]? = some u → _
   rw [dif_pos hil]
   exact (hit i hil).choose_spec
  have hll : ((List.range len).map f).length = len := by simp
  have hl40 : len * 40 ≤ 140737488351232 := by
   have h1 : ((List.range len).map D).length = len := by simp
   rw [h1] at z
   exact Nat.le_trans (Nat.mul_le_mul_right _ (by omega)) z
  refine ⟨(List.range len).map f, hll.symm, ⟨rfl, by rw [hll]; omega, fun _ => ⟨x, rfl, fun i p hp => ?_⟩⟩, by rw [hll]; exact hl, by rw [hll]; exact hl40⟩
  rw [List.getElem?_map] at hp
  obtain ⟨i', hi', rfl⟩ := Option.map_eq_some_iff.1 hp
  obtain ⟨hlt, rfl⟩ := List.getElem?_eq_some_iff.1 hi'
  simp only [List.length_range] at hlt
  simp only [List.getElem_range]
  exact ⟨_, rfl, k43_mk _ _, hfs i hlt⟩
end
end Go.Proofs.Ytbddfnmhhmkfkaa.Pr
namespace Go.Proofs.Ytbddfnmhhmkfkaa.Pr
open Go.RowKit Go.Proofs.YtbddfnmhhmkfkaaW.PrintWords Go.Proofs.YtbddfnmhhmkfkaaW.PrintLast Go.Proofs.YtbddfnmhhmkfkaaW.PrintMore
attribute [local go_sem] max2_int min2_int max_two min_two max_three min_three max_four min_four
set_option linter.unusedVariables false
set_option linter.unusedSimpArgs false
theorem info55 : (Try.prog.info? 55).map (fun i => (i.zero, i.size, i.bytes)) = some (some (.agg #[(.slice none 0 0), (.int .i64 0), (.int .i64 0)]), 3, 40) := by kernel_rfl
theorem info57 : (Try.prog.info? 57).map (fun i => (i.zero, i.size, i.bytes)) = some (some (.agg #[(.int .i64 0), (.int .u8 0), (.int .i64 0), (.int .i64 0)]), 4, 32) := by kernel_rfl
theorem info101 : (Try.prog.info? 101).map (fun i => (i.zero, i.size, i.bytes)) = some (some (.agg #[(.int .i64 0), (.int .u8 0), (.int .i64 0)]), 3, 24) := by kernel_rfl
structure S101 where
 f0 : Int
 f1 : Int
 f2 : Int
def z101 : S101 := ⟨(0 : Int), (0 : Int), (0 : Int)⟩
def k101 : Kd S101 := Kd.iso (Kd.pair (Kd.int .i64) (Kd.pair (Kd.int .u8) (Kd.int .i64))) (fun x : S101 => (x.f0, x.f1, x.f2))
theorem k101_open {w : World} {x : S101} {cs : List Value} (h : k101.K w x cs) : cs = [.int .i64 x.f0, .int .u8 x.f1, .int .i64 x.f2] := by
 obtain ⟨_, _, rfl, rfl, ⟨_, _, rfl, rfl, rfl⟩⟩ := h
 exact rfl
theorem k101_mk (w : World) (x : S101)  : k101.K w x [.int .i64 x.f0, .int .u8 x.f1, .int .i64 x.f2] := ⟨[.int .i64 x.f0], [.int .u8 x.f1, .int .i64 x.f2], rfl, rfl, ⟨[.int .u8 x.f1], [.int .i64 x.f2], rfl, rfl, rfl⟩⟩
theorem k101_mkM (w : World) (base : Nat) (ok : Nat → Prop) (x : S101)  : k101.M w base ok x [.int .i64 x.f0, .int .u8 x.f1, .int .i64 x.f2] := ⟨[.int .i64 x.f0], [.int .u8 x.f1, .int .i64 x.f2], rfl, rfl, ⟨[.int .u8 x.f1], [.int .i64 x.f2], rfl, rfl, rfl⟩⟩
def rd_T101 (xs : List S101) (i : Int) : S101 := xs.getD i.toNat z101
theorem at_T101 {w : World} {A : Option Addr} {n : Nat} {xs : List S101} (h : Kd.C k101 w A n xs) (i : Int) (h0 : 0 ≤ i) (h1 : i < n) : ∃ ad , A = some ad ∧ w.cell? (ad.add (i.toNat * 3)) = some (.int .i64 (rd_T101 xs i).f0) ∧ w.cell? ⟨(ad.add (i.toNat * 3)).block, (ad.add (i.toNat * 3)).off + 1, none⟩ = some (.int .u8 (rd_T101 xs i).f1) ∧ w.cell? ⟨(ad.add (i.toNat * 3)).block, (ad.add (i.toNat * 3)).off + 2, none⟩ = some (.int .i64 (rd_T101 xs i).f2) := by
 obtain ⟨ad, c, e, _, hK, hc0⟩ := Kd.C_get h z101 i h0 h1
 have hc : ∀ j u, c[j]? = some u → w.cell? (ad.add (i.toNat * 3 + j)) = some u := hc0
 obtain rfl := k101_open hK
 exact ⟨ad, e, hc 0 _ rfl, by rw [← add_field _ _ 1 (by omega)]; exact hc 1 _ rfl, by rw [← add_field _ _ 2 (by omega)]; exact hc 2 _ rfl⟩
def rd_L7 (xs : List (List S101)) (i : Int) : (List S101) := xs.getD i.toNat ([] : List S101)
structure S57 where
 f0 : Int
 f1 : Int
 f2 : Int
 f3 : Int
def z57 : S57 := ⟨(0 : Int), (0 : Int), (0 : Int), (0 : Int)⟩
def k57 : Kd S57 := Kd.iso (Kd.pair (Kd.int .i64) (Kd.pair (Kd.int .u8) (Kd.pair (Kd.int .i64) (Kd.int .i64)))) (fun x : S57 => (x.f0, x.f1, x.f2, x.f3))
theorem k57_open {w : World} {x : S57} {cs : List Value} (h : k57.K w x cs) : cs = [.int .i64 x.f0, .int .u8 x.f1, .int .i64 x.f2, .int .i64 x.f3] := by
 obtain ⟨_, _, rfl, rfl, ⟨_, _, rfl, rfl, ⟨_, _, rfl, rfl, rfl⟩⟩⟩ := h
 exact rfl
theorem k57_mkM (w : World) (base : Nat) (ok : Nat → Prop) (x : S57)  : k57.M w base ok x [.int .i64 x.f0, .int .u8 x.f1, .int .i64 x.f2, .int .i64 x.f3] := ⟨[.int .i64 x.f0], [.int .u8 x.f1, .int .i64 x.f2, .int .i64 x.f3], rfl, rfl, ⟨[.int .u8 x.f1], [.int .i64 x.f2, .int .i64 x.f3], rfl, rfl, ⟨[.int .i64 x.f2], [.int .i64 x.f3], rfl, rfl, rfl⟩⟩⟩
def rd_T57 (xs : List S57) (i : Int) : S57 := xs.getD i.toNat z57
theorem at_T57 {w : World} {A : Option Addr} {n : Nat} {xs : List S57} (h : Kd.C k57 w A n xs) (i : Int) (h0 : 0 ≤ i) (h1 : i < n) : ∃ ad , A = some ad ∧ w.cell? (ad.add (i.toNat * 4)) = some (.int .i64 (rd_T57 xs i).f0) ∧ w.cell? ⟨(ad.add (i.toNat * 4)).block, (ad.add (i.toNat * 4)).off + 1, none⟩ = some (.int .u8 (rd_T57 xs i).f1) ∧ w.cell? ⟨(ad.add (i.toNat * 4)).block, (ad.add (i.toNat * 4)).off + 2, none⟩ = some (.int .i64 (rd_T57 xs i).f2) ∧ w.cell? ⟨(ad.add (i.toNat * 4)).block, (ad.add (i.toNat * 4)).off + 3, none⟩ = some (.int .i64 (rd_T57 xs i).f3) := by
 obtain ⟨ad, c, e, _, hK, hc0⟩ := Kd.C_get h z57 i h0 h1
 have hc : ∀ j u, c[j]? = some u → w.cell? (ad.add (i.toNat * 4 + j)) = some u := hc0
 obtain rfl := k57_open hK
 exact ⟨ad, e, hc 0 _ rfl, by rw [← add_field _ _ 1 (by omega)]; exact hc 1 _ rfl, by rw [← add_field _ _ 2 (by omega)]; exact hc 2 _ rfl, by rw [← add_field _ _ 3 (by omega)]; exact hc 3 _ rfl⟩
def rd_L9 (xs : List (List S57)) (i : Int) : (List S57) := xs.getD i.toNat ([] : List S57)
structure S55 where
 f0 : (List S57)
 f1 : Int
 f2 : Int
def z55 : S55 := ⟨([] : List S57), (0 : Int), (0 : Int)⟩
def k55 : Kd S55 := Kd.iso (Kd.pair (Kd.slice 57 k57) (Kd.pair (Kd.int .i64) (Kd.int .i64))) (fun x : S55 => (x.f0, x.f1, x.f2))
theorem k55_open {w : World} {x : S55} {cs : List Value} (h : k55.K w x cs) : ∃ A0 c0, cs = [.slice A0 x.f0.length c0, .int .i64 x.f1, .int .i64 x.f2] ∧ x.f0.length ≤ c0 ∧ k57.C w A0 x.f0.length x.f0 := by
 obtain ⟨_, _, rfl, ⟨A0, c0, rfl, l0, g0⟩, ⟨_, _, rfl, rfl, rfl⟩⟩ := h
 exact ⟨A0, c0, rfl, l0, g0⟩
theorem k55_openM {w : World} {base : Nat} {ok : Nat → Prop} {x : S55} {cs : List Value} (h : k55.M w base ok x cs) : ∃ v0, cs = [v0, .int .i64 x.f1, .int .i64 x.f2] ∧ k57.R 57 w base ok v0 x.f0 := by
 obtain ⟨_, _, rfl, ⟨v0, rfl, g0⟩, ⟨_, _, rfl, rfl, rfl⟩⟩ := h
 exact ⟨v0, rfl, g0⟩
theorem k55_mkM (w : World) (base : Nat) (ok : Nat → Prop) (x : S55) {v0 : Value} (g0 : k57.R 57 w base ok v0 x.f0) : k55.M w base ok x [v0, .int .i64 x.f1, .int .i64 x.f2] := ⟨[v0], [.int .i64 x.f1, .int .i64 x.f2], rfl, ⟨v0, rfl, g0⟩, ⟨[.int .i64 x.f1], [.int .i64 x.f2], rfl, rfl, rfl⟩⟩
def rd_T55 (xs : List S55) (i : Int) : S55 := xs.getD i.toNat z55
theorem at_T55 {w : World} {A : Option Addr} {n : Nat} {xs : List S55} (h : Kd.C k55 w A n xs) (i : Int) (h0 : 0 ≤ i) (h1 : i < n) : ∃ ad A0 c0, A = some ad ∧ w.cell? (ad.add (i.toNat * 3)) = some (.slice A0 (rd_T55 xs i).f0.length c0) ∧ w.cell? ⟨(ad.add (i.toNat * 3)).block, (ad.add (i.toNat * 3)).off + 1, none⟩ = some (.int .i64 (rd_T55 xs i).f1) ∧ w.cell? ⟨(ad.add (i.toNat * 3)).block, (ad.add (i.toNat * 3)).off + 2, none⟩ = some (.int .i64 (rd_T55 xs i).f2) ∧ (rd_T55 xs i).f0.length ≤ c0 ∧ k57.C w A0 (rd_T55 xs i).f0.length (rd_T55 xs i).f0 := by
 obtain ⟨ad, c, e, _, hK, hc0⟩ := Kd.C_get h z55 i h0 h1
 have hc : ∀ j u, c[j]? = some u → w.cell? (ad.add (i.toNat * 3 + j)) = some u := hc0
 obtain ⟨A0, c0, rfl, l0, g0⟩ := k55_open hK
 exact ⟨ad, A0, c0, e, hc 0 _ rfl, by rw [← add_field _ _ 1 (by omega)]; exact hc 1 _ rfl, by rw [← add_field _ _ 2 (by omega)]; exact hc 2 _ rfl, l0, g0⟩
def rd_L11 (xs : List (List S55)) (i : Int) : (List S55) := xs.getD i.toNat ([] : List S55)
end Go.Proofs.Ytbddfnmhhmkfkaa.Pr
namespace Go.Proofs.Ytbddfnmhhmkfkaa.Pr
set_option linter.unusedVariables false
open Go.RowKit Go.ChangeShapes Go.WideShapes Go.Deep Go.Proofs.YtbddfnmhhmkfkaaW.PrintWords
section
variable {H : Type} {enc : TypeId × Value → H} {w : World} {base : Nat} {spare : Nat → Bool} {held : Bool}
theorem cellsOf101 : Try.prog.cellsOf 101 = 3 := by kernel_rfl
theorem bytesOf101 : Try.prog.bytesOf 101 = 24 := by kernel_rfl
theorem cellsOf101_3 : Try.prog.cellsOf 3 = 1 := by kernel_rfl
theorem cellsOf101_5 : Try.prog.cellsOf 5 = 1 := by kernel_rfl
set_option maxRecDepth 100000 in
theorem item_open101 {n : Nat} {cs : List Value} {y : DataW H × List MemPlace} (h : DataW.trod enc Try.prog w base spare held n 101 cs = some y) :
  ∃ x : S101, cs = [.int .i64 x.f0, .int .u8 x.f1, .int .i64 x.f2] := by
 obtain ⟨ys, m, rfl, _, hlen, hyl, hf⟩ := DataW.trod_struct Try.underlying101 h
 rw [cellsOf101] at hlen
 match cs, hlen with
 | [c0, c1, c2], _ =>
  match ys, hyl with
  | [y0, y1, y2], _ =>
   have g0 : DataW.trod enc Try.prog w base spare held m 3 (([c0, c1, c2].drop 0).take (Try.prog.cellsOf 3)) = some y0 := hf 0 _ rfl
   have g1 : DataW.trod enc Try.prog w base spare held m 5 (([c0, c1, c2].drop 1).take (Try.prog.cellsOf 5)) = some y1 := hf 1 _ rfl
   have g2 : DataW.trod enc Try.prog w base spare held m 3 (([c0, c1, c2].drop 2).take (Try.prog.cellsOf 3)) = some y2 := hf 2 _ rfl
   rw [cellsOf101_3] at g0
   rw [cellsOf101_5] at g1
   rw [cellsOf101_3] at g2
   obtain ⟨n0, e0, _⟩ := DataW.trod_int Try.underlying3 g0
   obtain ⟨n1, e1, _⟩ := DataW.trod_int Try.underlying5 g1
   obtain ⟨n2, e2, _⟩ := DataW.trod_int Try.underlying3 g2
   simp at e0 e1 e2
   exact ⟨⟨n0, n1, n2⟩, by rw [e0, e1, e2]⟩
set_option maxRecDepth 100000 in
theorem open_K {a : Option Addr} {len cap : Nat} {d : DataW H} {ps : List MemPlace} {ts : List TypeId} {ds : List (DataW H)} {j : Nat}
  (hsz : (DataW.weightsEach Try.prog ts ds).all (· ≤ reachBytes) = true) (ht : ts[j]? = some 44) (hd : ds[j]? = some d)
  (h : DataW.Trod enc Try.prog w base spare held 44 (.slice a len cap) d ps) :
  ∃ l : List S101, len = l.length ∧ Kd.C k101 w a l.length l ∧ l.length ≤ cap ∧ l.length * 24 ≤ 140737488351232 := by
 obtain ⟨fuel, hf⟩ := h
 rcases open_slice Try.underlying44 hf with ⟨hcs, _⟩ | ⟨x, len', cap', m, n, D, Pl, hcs, _, hl, hcm, hm, hx, hi⟩
 ·simp [Value.cells] at hcs
  obtain ⟨rfl, rfl, rfl⟩ := hcs
  exact ⟨[], rfl, ⟨rfl, by simp, fun h => absurd h (by simp)⟩, Nat.le_refl _, by simp⟩
 ·simp [Value.cells] at hcs
  obtain ⟨rfl, rfl, rfl⟩ := hcs
  obtain ⟨hx1, _⟩ := Prod.mk.inj hx
  subst hx1
  have z := sized_slice hsz ht hd Try.underlying44
  rw [bytesOf101] at z
  have hlm : len ≤ m := by rw [hm]; split <;> omega
  have hit : ∀ i, i < len → ∃ y : S101, ∀ k u, [Value.int .i64 y.f0, Value.int .u8 y.f1, Value.int .i64 y.f2][k]? = some u → w.cell? (x.add (i * 3 + k)) = some u := fun i hil => by
   obtain ⟨cs', hc, htr⟩ := hi i (by omega)
   rw [cellsOf101] at hc
   obtain ⟨y, rfl⟩ := item_open101 htr
   obtain ⟨_, _, hat⟩ := World.cells?_some hc
   refine ⟨y, fun k u hk => ?_⟩
   have hk5 : k < 3 := by
    have := (List.getElem?_eq_some_iff.1 hk).1
    simpa using this
   have := hat k hk5
   rw [hk, Go.Deep.add_add] at this
   exact this
  let f : Nat → S101 := fun i => if hil : i < len then (hit i hil).choose else z101
  have hfs : ∀ i, i < len → ∀ k u, [Value.int .i64 (f i).f0, Value.int .u8 (f i).f1, Value.int .i64 (f i).f2][k]? = some u → w.cell? (x.add (i * 3 + k)) = some u := fun i hil => by
   show ∀ k u, [Value.int .i64 (if hil : i < len then (hit i hil).choose else z101).f0, Value.int .u8 (if hil : i < len then (hit i hil).choose else z101).f1, Value.int .i64 (if hil : i < len then (hit i hil).choose else z101).f2][k]? = some u → _
   rw [dif_pos hil]
   exact (hit i hil).choose_spec
  have hll : ((List.range len).map f).length = len := by simp
  have hl40 : len * 24 ≤ 140737488351232 := by
   have h1 : ((List.range len).map D).length = len := by simp
   rw [h1] at z
   exact Nat.le_trans (Nat.mul_le_mul_right _ (by omega)) z
  refine ⟨(List.range len).map f, hll.symm, ⟨rfl, by rw [hll]; omega, fun _ => ⟨x, rfl, fun i p hp => ?_⟩⟩, by rw [hll]; exact hl, by rw [hll]; exact hl40⟩
  rw [List.getElem?_map] at hp
  obtain ⟨i', hi', rfl⟩ := Option.map_eq_some_iff.1 hp
  obtain ⟨hlt, rfl⟩ := List.getElem?_eq_some_iff.1 hi'
  simp only [List.length_range] at hlt
  simp only [List.getElem_range]
  exact ⟨_, rfl, k101_mk _ _, hfs i hlt⟩
end
end Go.Proofs.Ytbddfnmhhmkfkaa.Pr
namespace Go.Det
open Go
set_option linter.unusedVariables false
variable {P : Program} {ops : Array Oper} {Q : Exit → Act → World → Prop} {S : World → Prop}
def NoOut : Exit → Act → World → Prop := fun _ _ _ => False
theorem noOut_lets : ¬ LetsOut NoOut := fun ⟨_, _, h⟩ => h
theorem upon_imp {o : Oper} {a : Act} {K K' : Act → World → Prop} {r : Result Next} (h : ∀ a w, K a w → K' a w) (hh : o.upon P a K NoOut r) : o.upon P a K' Q r := by
 cases r with
 | ok n w' =>
  cases n <;> simp only [Oper.upon] at hh ⊢ <;>
   first
    | exact h _ _ hh
    | exact Calls.mono hh (fun e w'' he => by cases e <;> first | exact h _ _ he | exact he.elim | exact (noOut_lets he).elim)
    | exact Rows.mono hh (fun _ _ he => h _ _ he)
 | halt x w' => cases x <;> simp only [Oper.upon] at hh ⊢ <;> exact hh.elim
theorem put_inj {a b : Act} {dst : Option Tmp} {u v : Value} (hs : b.tmps.size = a.tmps.size) (h : a.put dst u = a.put dst v) : b.put dst u = b.put dst v := by
 cases dst with
 | none => rfl
 | some d =>
  by_cases hd : d < a.tmps.size
  ·have h1 : (a.put (some d) u).tmps[d]? = (a.put (some d) v).tmps[d]? := by rw [h]
   simp only [Act.put, Array.getElem?_setIfInBounds, if_pos hd, if_true, Option.some.injEq] at h1
   rw [h1]
  ·simp only [Act.put]
   rw [Array.setIfInBounds_eq_of_size_le (by rw [hs]; exact Nat.le_of_not_lt hd), Array.setIfInBounds_eq_of_size_le (by rw [hs]; exact Nat.le_of_not_lt hd)]
theorem upon_same {o : Oper} {x y : Act} {v : Value} {r : Result Next} (hs : y.tmps.size = x.tmps.size) (hh : o.upon P x (fun a' w' => a' = x.put o.dst v ∧ S w') NoOut r) :
  o.upon P y (fun a' w' => a' = y.put o.dst v ∧ S w') NoOut r := by
 cases r with
 | ok n w' =>
  cases n <;> simp only [Oper.upon] at hh ⊢ <;>
   first
    | exact ⟨put_inj hs hh.1, hh.2⟩
    | exact Calls.mono hh (fun e w'' he => by cases e <;> first | exact ⟨put_inj hs he.1, he.2⟩ | exact he.elim | exact (noOut_lets he).elim)
    | exact Rows.mono hh (fun _ _ he => ⟨put_inj hs he.1, he.2⟩)
    | skip
  rename_i d
  exfalso
  have := congrArg (fun a : Act => a.defers.length) hh.1
  cases hd : o.dst <;> simp [hd, Act.put] at this
 | halt x w' => cases x <;> simp only [Oper.upon] at hh ⊢ <;> exact hh.elim
def StepV (P : Program) (ops : Array Oper) (S : World → Prop) (a : Act) (o : Oper) (v : Value) : Prop :=
 (Region.wanted o (yielded ops a.tmps) = true ∧ ∀ w, S w → o.wp P a w (fun a' w' => a' = a.put o.dst v ∧ S w') NoOut) ∨
 (Region.wanted o (yielded ops a.tmps) = false ∧ v = undef)
def SeqL (P : Program) (ops : Array Oper) (S : World → Prop) (R : Act → Prop) : List Oper → Act → Prop
 | [], a => R a
 | o :: rest, a => ∃ v, StepV P ops S a o v ∧ SeqL P ops S R rest (a.put o.dst v)
def okAt (ops : Array Oper) (i : Nat) (o : Oper) : Bool :=
 (o.after.all fun e => !Region.binds .any e || decide (e.on < i)) &&
 ((List.range ops.size).all fun j => match ops[j]? with
  | none => true
  | some oj =>
   (match oj.dst with
    | none => true
    | some t => (j == i || o.dst != some t) &&
     (!(o.looksAt ops).contains t || (o.after.any fun e => Region.binds .any e && e.on == j) || (j != i && oj.after.any fun e => Region.binds .any e && e.on == i)))) &&
 (match o.op with | .select _ _ => false | _ => true)
def okOps (ops : Array Oper) : Bool := (List.range ops.size).all fun i => match ops[i]? with | none => true | some o => okAt ops i o
structure Ok (ops : Array Oper) : Prop where
 back : ∀ (i : Nat) (o : Oper), ops[i]? = some o → ∀ e ∈ o.after, Region.binds .any e = true → e.on < i
 apart : ∀ (i : Nat) (o : Oper) (j : Nat) (oj : Oper) (t : Tmp), ops[i]? = some o → ops[j]? = some oj → oj.dst = some t → j ≠ i → o.dst ≠ some t
 reads : ∀ (i : Nat) (o : Oper) (j : Nat) (oj : Oper) (t : Tmp), ops[i]? = some o → ops[j]? = some oj → oj.dst = some t → t ∈ o.looksAt ops →
  (∃ e ∈ o.after, Region.binds .any e = true ∧ e.on = j) ∨ (j ≠ i ∧ ∃ e ∈ oj.after, Region.binds .any e = true ∧ e.on = i)
 plain : ∀ (i : Nat) (o : Oper), ops[i]? = some o → ∀ cs b, o.op ≠ .select cs b
theorem lt_of_some {i : Nat} {o : Oper} (h : ops[i]? = some o) : i < ops.size := (Array.getElem?_eq_some_iff.1 h).1
theorem okOps_spec (h : okOps ops = true) : Ok ops := by
 have hat : ∀ (i : Nat) (o : Oper), ops[i]? = some o → okAt ops i o = true := fun i o hi => by
  have := List.all_eq_true.1 h i (List.mem_range.2 (lt_of_some hi))
  simpa [hi] using this
 have pair : ∀ (i : Nat) (o : Oper) (j : Nat) (oj : Oper) (t : Tmp), ops[i]? = some o → ops[j]? = some oj → oj.dst = some t → ((j == i || o.dst != some t) &&
     (!(o.looksAt ops).contains t || (o.after.any fun e => Region.binds .any e && e.on == j) || (j != i && oj.after.any fun e => Region.binds .any e && e.on == i))) = true := fun i o j oj t hi hj hd => by
  have := hat i o hi
  simp only [okAt, Bool.and_eq_true] at this
  have h2 := List.all_eq_true.1 this.1.2 j (List.mem_range.2 (lt_of_some hj))
  simp only [hj, hd] at h2
  exact h2
 refine ⟨fun i o hi e he hbe => ?_, fun i o j oj t hi hj hd hne => ?_, fun i o j oj t hi hj hd ht => ?_, fun i o hi cs b hs => ?_⟩
 ·have := hat i o hi
  simp only [okAt, Bool.and_eq_true] at this
  have := (Array.all_eq_true_iff_forall_mem.1 this.1.1) e he
  simpa [hbe] using this
 ·have := pair i o j oj t hi hj hd
  simp only [Bool.and_eq_true, Bool.or_eq_true, beq_iff_eq, bne_iff_ne] at this
  rcases this.1 with h1 | h1
  ·exact absurd h1 hne
  ·exact h1
 ·have := pair i o j oj t hi hj hd
  simp only [Bool.and_eq_true, Bool.or_eq_true, beq_iff_eq, bne_iff_ne, Bool.not_eq_true', Array.any_eq_true'] at this
  rcases this.2 with (h1 | h1) | ⟨h0, h1⟩
  ·rw [List.contains_eq_mem] at h1
   simp [ht] at h1
  ·obtain ⟨e, he, h2⟩ := h1
   exact .inl ⟨e, he, by simpa using h2⟩
  ·obtain ⟨e, he, h2⟩ := h1
   exact .inr ⟨h0, e, he, by simpa using h2⟩
 ·have := hat i o hi
  simp only [okAt, Bool.and_eq_true, hs] at this
  exact absurd this.2 (by simp)
def Fr (ops : Array Oper) (val : Nat → Value) (a : Act) (L : Nat → Bool) (x : Act) : Prop :=
 x.defers = a.defers ∧ x.tmps.size = a.tmps.size ∧ ∀ t, t < a.tmps.size →
  (∀ i o, ops[i]? = some o → L i = true → o.dst = some t → x.tmps[t]? = some (val i)) ∧
  ((∀ i o, ops[i]? = some o → L i = true → o.dst ≠ some t) → x.tmps[t]? = a.tmps[t]?)
theorem fr_start (val : Nat → Value) (a : Act) (L : Nat → Bool) (h : ∀ i, i < ops.size → L i = false) : Fr ops val a L a :=
 ⟨rfl, rfl, fun t ht => ⟨fun i o hi hl => (by rw [h i (lt_of_some hi)] at hl; exact absurd hl (by simp)), fun _ => rfl⟩⟩
theorem fr_congr {val val' : Nat → Value} {a x : Act} {L L' : Nat → Bool} (h : Fr ops val a L x) (hL : ∀ i, i < ops.size → L' i = L i) (hv : ∀ i, L i = true → val' i = val i) : Fr ops val' a L' x :=
 ⟨h.1, h.2.1, fun t ht => ⟨fun i o hi hl hd => by
   have hl' : L i = true := by rw [← hL i (lt_of_some hi)]; exact hl
   rw [hv i hl']; exact (h.2.2 t ht).1 i o hi hl' hd,
  fun hn => (h.2.2 t ht).2 fun i o hi hl => hn i o hi (by rw [hL i (lt_of_some hi)]; exact hl)⟩⟩
theorem fr_put (ok : Ok ops) {val : Nat → Value} {a x : Act} {L L' : Nat → Bool} {i : Nat} {o : Oper} (hi : ops[i]? = some o) (h : Fr ops val a L x)
  (hL : ∀ j, j < ops.size → L' j = (L j || j == i)) : Fr ops val a L' (x.put o.dst (val i)) := by
 obtain ⟨h1, h2, h3⟩ := h
 cases hd : o.dst with
 | none =>
  refine ⟨h1, h2, fun t ht => ⟨fun j oj hj hl hdj => ?_, fun hn => ?_⟩⟩
  ·rw [hL j (lt_of_some hj)] at hl
   rcases Bool.or_eq_true .. ▸ hl with hl | hl
   ·exact (h3 t ht).1 j oj hj hl hdj
   ·have : j = i := by simpa using hl
    subst this
    rw [hi] at hj
    cases hj
    rw [hd] at hdj
    cases hdj
  ·exact (h3 t ht).2 fun j oj hj hl => hn j oj hj (by rw [hL j (lt_of_some hj), hl]; rfl)
 | some d =>
  refine ⟨h1, by simp [Act.put, h2], fun t ht => ?_⟩
  by_cases htd : d = t
  ·subst htd
   have hv : (x.put (some d) (val i)).tmps[d]? = some (val i) := by simp [Act.put, h2, ht]
   refine ⟨fun j oj hj hl hdj => ?_, fun hn => absurd hd (hn i o hi (by rw [hL i (lt_of_some hi)]; simp))⟩
   by_cases hji : j = i
   ·subst hji; exact hv
   ·exact absurd hd (ok.apart i o j oj d hi hj hdj hji)
  ·have hv : (x.put (some d) (val i)).tmps[t]? = x.tmps[t]? := by simp [Act.put, Array.getElem?_setIfInBounds_ne htd]
   rw [hv]
   refine ⟨fun j oj hj hl hdj => ?_, fun hn => (h3 t ht).2 fun j oj hj hl => hn j oj hj (by rw [hL j (lt_of_some hj), hl]; rfl)⟩
   rw [hL j (lt_of_some hj)] at hl
   rcases Bool.or_eq_true .. ▸ hl with hl | hl
   ·exact (h3 t ht).1 j oj hj hl hdj
   ·have : j = i := by simpa using hl
    subst this
    rw [hi] at hj
    cases hj
    rw [hd] at hdj
    cases hdj
    exact absurd rfl htd
theorem fr_same {val : Nat → Value} {a x y : Act} {L L' : Nat → Bool} (hx : Fr ops val a L x) (hy : Fr ops val a L' y) (t : Tmp)
  (h : ∀ j oj, ops[j]? = some oj → oj.dst = some t → L j = L' j) : x.tmps[t]? = y.tmps[t]? := by
 by_cases ht : t < a.tmps.size
 ·by_cases hex : ∃ j oj, ops[j]? = some oj ∧ L j = true ∧ oj.dst = some t
  ·obtain ⟨j, oj, hj, hl, hd⟩ := hex
   rw [(hx.2.2 t ht).1 j oj hj hl hd, (hy.2.2 t ht).1 j oj hj (by rw [← h j oj hj hd]; exact hl) hd]
  ·have hn : ∀ j oj, ops[j]? = some oj → L j = true → oj.dst ≠ some t := fun j oj hj hl hd => hex ⟨j, oj, hj, hl, hd⟩
   rw [(hx.2.2 t ht).2 hn, (hy.2.2 t ht).2 fun j oj hj hl hd => hn j oj hj (by rw [h j oj hj hd]; exact hl) hd]
 ·rw [Array.getElem?_eq_none (by rw [hx.2.1]; exact Nat.le_of_not_lt ht), Array.getElem?_eq_none (by rw [hy.2.1]; exact Nat.le_of_not_lt ht)]
theorem fr_eq {val : Nat → Value} {a x y : Act} {L L' : Nat → Bool} (hx : Fr ops val a L x) (hy : Fr ops val a L' y) (h : ∀ j, j < ops.size → L j = L' j) : x = y := by
 have h1 : x.tmps = y.tmps := Array.ext_getElem? fun t => fr_same hx hy t fun j oj hj _ => h j (lt_of_some hj)
 have h2 : x.defers = y.defers := hx.1.trans hy.1.symm
 cases x; cases y; simp_all
theorem step_same (ok : Ok ops) {val : Nat → Value} {a x y : Act} {L L' : Nat → Bool} {i : Nat} {o : Oper} {v : Value} (hi : ops[i]? = some o) (hx : Fr ops val a L x) (hy : Fr ops val a L' y)
  (h : ∀ j oj t, ops[j]? = some oj → oj.dst = some t → t ∈ o.looksAt ops → L j = L' j) (hs : StepV P ops S x o v) : StepV P ops S y o v := by
 have hev : execOp y.eval o = execOp x.eval o := execOp_congr o (ok.plain i o hi) fun z hz => by
  cases z with
  | tmp t =>
   have := fr_same hx hy t fun j oj hj hd => h j oj t hj hd (List.mem_append_left _ (List.mem_filterMap.2 ⟨.tmp t, by simpa using hz, rfl⟩))
   simp [Act.eval, Array.getD_eq_getD_getElem?, this]
  | _ => rfl
 have hw : Region.wanted o (yielded ops y.tmps) = Region.wanted o (yielded ops x.tmps) := by
  unfold Region.wanted
  cases hg : o.guard with
  | none => rfl
  | some gw =>
   obtain ⟨g, want⟩ := gw
   have : yielded ops y.tmps g = yielded ops x.tmps g := by
    unfold yielded
    cases ht : (ops[g]?).bind (·.dst) with
    | none => rfl
    | some t =>
     have := fr_same hx hy t fun j oj hj hd => h j oj t hj hd (by simp [Oper.looksAt, hg, ht])
     simp [this]
   simp only [this]
 have hsz : y.tmps.size = x.tmps.size := by rw [hx.2.1, hy.2.1]
 rcases hs with ⟨h1, h2⟩ | h1
 ·refine .inl ⟨by rw [hw]; exact h1, fun w hS => ?_⟩
  have := h2 w hS
  unfold Oper.wp at this ⊢
  rw [hev]
  exact upon_same hsz this
 ·exact .inr (by rw [hw]; exact h1)
def cnt (L : Nat → Bool) : Nat → Nat
 | 0 => 0
 | k + 1 => cnt L k + (if L k = true then 0 else 1)
theorem cnt_zero (L : Nat → Bool) : ∀ n, cnt L n = 0 → ∀ i, i < n → L i = true
 | 0, _, i, hi => absurd hi (by omega)
 | n + 1, h, i, hi => by
  simp only [cnt] at h
  by_cases hin : i = n
  ·subst hin
   by_cases hl : L i = true
   ·exact hl
   ·rw [if_neg hl] at h; omega
  ·exact cnt_zero L n (by omega) i (by omega)
theorem cnt_set (L L' : Nat → Bool) (i : Nat) (hi : L i = false) (hL : ∀ j, L' j = (L j || j == i)) : ∀ n, (i < n → cnt L' n + 1 = cnt L n) ∧ (n ≤ i → cnt L' n = cnt L n)
 | 0 => ⟨fun h => absurd h (by omega), fun _ => rfl⟩
 | n + 1 => by
  obtain ⟨h1, h2⟩ := cnt_set L L' i hi hL n
  simp only [cnt, hL n]
  refine ⟨fun h => ?_, fun h => ?_⟩
  ·by_cases hin : i = n
   ·subst hin
    rw [h2 (by omega), hi]
    simp
   ·have := h1 (by omega)
    simp only [show (n == i) = false by simpa using Ne.symm hin, Bool.or_false]
    omega
  ·rw [h2 (by omega)]
   simp only [show (n == i) = false by simp; omega, Bool.or_false]
def waits (ops : Array Oper) : Nat → Nat → Nat → Bool
 | 0, _, _ => false
 | n + 1, j, i => match ops[j]? with
  | none => false
  | some o => o.after.any fun e => Region.binds .any e && (e.on == i || waits ops n e.on i)
def tailOk (ops : Array Oper) (k : Nat) : Bool := (List.range ops.size).all fun j => decide (j < k) || (List.range j).all fun i => waits ops ops.size j i
theorem waits_listed {listed : Array Bool} (hcl : ∀ (i : Nat) (o : Oper), ops[i]? = some o → listed.getD i false = true → ∀ e ∈ o.after, Region.binds .any e = true → listed.getD e.on false = true) :
  ∀ (n j i : Nat), (∀ (o : Oper), ops[j]? = some o → ∀ e ∈ o.after, Region.binds .any e = true → listed.getD e.on false = true) → waits ops n j i = true → listed.getD i false = true
 | 0, j, i, _, h => by simp [waits] at h
 | n + 1, j, i, hj, h => by
  simp only [waits] at h
  split at h
  ·cases h
  ·rename_i o ho
   obtain ⟨e, he, h2⟩ := Array.any_eq_true'.1 h
   simp only [Bool.and_eq_true, Bool.or_eq_true, beq_iff_eq] at h2
   have hl := hj o ho e he h2.1
   rcases h2.2 with h3 | h3
   ·rw [← h3]; exact hl
   ·exact waits_listed hcl n e.on i (fun o' ho' => hcl e.on o' ho' hl) h3
theorem tail_waits {k : Nat} (ht : tailOk ops k = true) {j i : Nat} (hj : j < ops.size) (hk : k ≤ j) (hi : i < j) : waits ops ops.size j i = true := by
 have := List.all_eq_true.1 ht j (List.mem_range.2 hj)
 simp only [Bool.or_eq_true, decide_eq_true_eq] at this
 rcases this with h | h
 ·omega
 ·exact List.all_eq_true.1 h i (List.mem_range.2 hi)
theorem getD_lt {listed : Array Bool} {i : Nat} (h : i < listed.size) (d : Bool) : listed.getD i d = listed.getD i false := by
 simp [Array.getD_eq_getD_getElem?, Array.getElem?_eq_getElem h]
theorem ready_iff {listed : Array Bool} (hsz : listed.size = ops.size) {i : Nat} {o : Oper} (ho : ops[i]? = some o) :
  i ∈ Region.ready .any ops listed ↔ listed.getD i false = false ∧ ∀ e ∈ o.after, Region.binds .any e = true → listed.getD e.on false = true := by
 have hi : i < ops.size := lt_of_some ho
 unfold Region.ready
 rw [List.mem_filter, ho, getD_lt (by omega)]
 simp only [List.mem_range, hi, true_and, Bool.and_eq_true, Bool.not_eq_true', Option.map_some, Option.getD_some]
 rw [Array.all_eq_true_iff_forall_mem]
 refine and_congr Iff.rfl (forall_congr' fun e => forall_congr' fun he => ?_)
 cases Region.binds .any e <;> simp
theorem ready_lt {listed : Array Bool} {i : Nat} (h : i ∈ Region.ready .any ops listed) : i < ops.size := by
 unfold Region.ready at h
 rw [List.mem_filter] at h
 exact List.mem_range.1 h.1
theorem least_ready (ok : Ok ops) {listed : Array Bool} (hsz : listed.size = ops.size) (hr : Region.ready .any ops listed = []) (i : Nat) (hi : i < ops.size) : listed.getD i false = true := by
 induction i using Nat.strongRecOn with
 | ind i ih =>
  cases hl : listed.getD i false with
  | true => rfl
  | false =>
   exfalso
   have ho : ops[i]? = some ops[i] := Array.getElem?_eq_getElem hi
   have hmem := (ready_iff hsz ho).2 ⟨hl, fun e he hbe => by
    have hb := ok.back i _ ho e he hbe
    exact ih e.on hb (by omega)⟩
   rw [hr] at hmem
   cases hmem
theorem set_getD {listed : Array Bool} {i : Nat} (hil : i < listed.size) (j : Nat) : (listed.setIfInBounds i true).getD j false = (listed.getD j false || j == i) := by
 simp only [Array.getD_eq_getD_getElem?, Array.getElem?_setIfInBounds]
 by_cases hij : i = j
 ·subst hij; simp [hil]
 ·simp [hij, Ne.symm hij]
theorem drop_cons {m : Nat} {o : Oper} (ho : ops[m]? = some o) : ops.toList.drop m = o :: ops.toList.drop (m + 1) := by
 have hm : m < ops.toList.length := by simpa using lt_of_some ho
 rw [List.drop_eq_getElem_cons hm]
 congr 1
 have h1 : ops.toList[m]? = some o := by simpa using ho
 rw [List.getElem?_eq_getElem hm] at h1
 exact Option.some.inj h1
theorem any_tail (ok : Ok ops) {k : Nat} (ht : tailOk ops k = true) : ∀ (fuel m : Nat) (listed : Array Bool) (a : Act) (w : World), listed.size = ops.size → (∀ i, i < ops.size → listed.getD i false = decide (i < m)) →
  k ≤ m → m ≤ ops.size → ops.size ≤ fuel + m → wpList P ops Q (ops.toList.drop m) a w → wpAny P .any ops Q fuel listed a w := by
 intro fuel
 induction fuel with
 | zero =>
  intro m listed a w hsz hL hk hm hf h
  obtain rfl : m = ops.size := by omega
  rw [List.drop_eq_nil_of_le (by simp)] at h
  refine ⟨?_, h⟩
  rw [List.eq_nil_iff_forall_not_mem]
  intro i hi
  have hi' := ready_lt hi
  have := ((ready_iff hsz (Array.getElem?_eq_getElem hi')).1 hi).1
  rw [hL i hi'] at this
  simp at this
  omega
 | succ fuel ih =>
  intro m listed a w hsz hL hk hm hf h
  refine ⟨fun hr => ?_, fun i hi => ?_⟩
  ·have hms : m = ops.size := by
    rcases Nat.lt_or_ge m ops.size with h1 | h1
    ·have := least_ready ok hsz hr m h1
     rw [hL m h1] at this
     simp at this
    ·omega
   subst hms
   rw [List.drop_eq_nil_of_le (by simp)] at h
   exact h
  ·have hi' := ready_lt hi
   obtain ⟨h1, h2⟩ := (ready_iff hsz (Array.getElem?_eq_getElem hi')).1 hi
   rw [hL i hi'] at h1
   have hmi : m ≤ i := by simpa using h1
   have him : i = m := by
    rcases Nat.lt_or_ge m i with h3 | h3
    ·exfalso
     have hw := tail_waits ht hi' (by omega) h3
     have hcl : ∀ (j : Nat) (o : Oper), ops[j]? = some o → listed.getD j false = true → ∀ e ∈ o.after, Region.binds .any e = true → listed.getD e.on false = true := fun j o hj hl e he hbe => by
      have hb := ok.back j o hj e he hbe
      have hj' := lt_of_some hj
      rw [hL j hj'] at hl
      rw [hL e.on (by omega)]
      simp at hl ⊢
      omega
     have := waits_listed hcl ops.size i m (fun o ho e he hb => by
      rw [Array.getElem?_eq_getElem hi'] at ho
      cases ho
      exact h2 e he hb) hw
     rw [hL m (by omega)] at this
     simp at this
    ·omega
   subst him
   have ho : ops[i]? = some ops[i] := Array.getElem?_eq_getElem hi'
   rw [drop_cons ho] at h
   have hnext : ∀ a w, wpList P ops Q (ops.toList.drop (i + 1)) a w → wpAny P .any ops Q fuel (listed.setIfInBounds i true) a w := fun a w h' =>
    ih (i + 1) _ a w (by simpa using hsz) (fun j hj => by
     rw [set_getD (by omega), hL j hj, Bool.eq_iff_iff]; simp; omega) (by omega) (by omega) (by omega) h'
   unfold wpOp
   rw [ho]
   simp only
   unfold wpList at h
   split
   ·rename_i hw
    rw [if_pos hw] at h
    exact h.imp (Oper.wp_mono hnext) id
   ·rename_i hw
    rw [if_neg hw] at h
    exact hnext _ _ h
theorem any_det (ok : Ok ops) {k : Nat} (hkn : k ≤ ops.size) (ht : tailOk ops k = true) {val : Nat → Value} {a0 : Act} (hsteps : ∀ i o, i < k → ops[i]? = some o → ∃ x, Fr ops val a0 (fun j => decide (j < i)) x ∧ StepV P ops S x o (val i))
  (hend : ∀ x, Fr ops val a0 (fun j => decide (j < k)) x → ∀ w, S w → wpList P ops Q (ops.toList.drop k) x w) : ∀ (fuel : Nat) (listed : Array Bool) (a : Act) (w : World), listed.size = ops.size →
  cnt (fun i => listed.getD i false) ops.size ≤ fuel → (∀ i o, ops[i]? = some o → listed.getD i false = true → ∀ e ∈ o.after, Region.binds .any e = true → listed.getD e.on false = true) →
  (∀ i, i < ops.size → listed.getD i false = true → i < k) →
  Fr ops val a0 (fun i => listed.getD i false) a → S w → wpAny P .any ops Q fuel listed a w := by
 intro fuel
 induction fuel with
 | zero =>
  intro listed a w hsz hc hcl hlk hf hS
  have hall := cnt_zero _ _ (Nat.le_zero.1 hc)
  have hks : k = ops.size := by
   rcases Nat.lt_or_ge k ops.size with h | h
   ·have := hlk k h (hall k h); omega
   ·omega
  refine any_tail ok ht 0 k listed a w hsz (fun i hi => by rw [hall i hi]; simp; omega) (Nat.le_refl _) hkn (by omega) (hend a (fr_congr hf (fun j hj => ?_) (fun _ _ => rfl)) w hS)
  rw [hall j hj]; simp; omega
 | succ fuel ih =>
  intro listed a w hsz hc hcl hlk hf hS
  by_cases hdone : ∀ i, i < k → listed.getD i false = true
  ·have hL : ∀ i, i < ops.size → listed.getD i false = decide (i < k) := fun i hi => by
    by_cases hik : i < k
    ·rw [hdone i hik]; simp [hik]
    ·have : listed.getD i false ≠ true := fun h => hik (hlk i hi h)
     simp only [Bool.not_eq_true] at this
     rw [this]; simp [hik]
   have hcnt : ops.size ≤ cnt (fun i => listed.getD i false) ops.size + k := by
    have : ∀ n, n ≤ ops.size → n ≤ cnt (fun i => listed.getD i false) n + k := fun n => by
     induction n with
     | zero => intro _; omega
     | succ n ihn =>
      intro hn
      simp only [cnt]
      have := ihn (by omega)
      have hLn := hL n (by omega)
      by_cases hnk : n < k
      ·split <;> omega
      ·rw [if_neg (by rw [hLn]; simp [hnk])]
       omega
    exact this _ (Nat.le_refl _)
   exact any_tail ok ht (fuel + 1) k listed a w hsz hL (Nat.le_refl _) hkn (by omega) (hend a (fr_congr hf (fun j hj => (hL j hj).symm) (fun _ _ => rfl)) w hS)
  refine ⟨fun hr => absurd (fun i hi => least_ready ok hsz hr i (by omega)) hdone, fun i hi => ?_⟩
  have hin : i < ops.size := ready_lt hi
  have hil : i < listed.size := by omega
  obtain ⟨o, ho⟩ : ∃ o, ops[i]? = some o := ⟨_, Array.getElem?_eq_getElem hin⟩
  obtain ⟨hlf, hdeps⟩ := (ready_iff hsz ho).1 hi
  have hik : i < k := by
   rcases Nat.lt_or_ge i k with h | h
   ·exact h
   ·exfalso
    refine hdone fun j hj => ?_
    have hw := tail_waits ht hin h (show j < i by omega)
    exact waits_listed hcl ops.size i j (fun o' ho' e he hb => by
     rw [ho] at ho'
     cases ho'
     exact hdeps e he hb) hw
  have hset : ∀ j, (listed.setIfInBounds i true).getD j false = (listed.getD j false || j == i) := fun j => set_getD hil j
  obtain ⟨x, hfx, hsx⟩ := hsteps i o hik ho
  have hst : StepV P ops S a o (val i) := step_same ok ho hfx hf (fun j oj t hj hd ht => by
   rcases ok.reads i o j oj t ho hj hd ht with ⟨e, he, hb, rfl⟩ | ⟨hne, e, he, hb, hei⟩
   ·rw [hdeps e he hb]
    simpa using ok.back i o ho e he hb
   ·have hlt : i < j := hei ▸ ok.back j oj hj e he hb
    have : listed.getD j false = false := by
     cases hlj : listed.getD j false with
     | false => rfl
     | true =>
      have := hcl j oj hj hlj e he hb
      rw [hei, hlf] at this
      cases this
    rw [this]
    simp; omega) hsx
  have hnext : ∀ w', S w' → wpAny P .any ops Q fuel (listed.setIfInBounds i true) (a.put o.dst (val i)) w' := fun w' hS' => by
   refine ih _ _ _ (by simpa using hsz) ?_ ?_ ?_ ?_ hS'
   ·have := (cnt_set (fun j => listed.getD j false) (fun j => (listed.setIfInBounds i true).getD j false) i hlf hset ops.size).1 hin
    omega
   ·intro j oj hj hlj e he hb
    rw [hset] at hlj ⊢
    rcases Bool.or_eq_true .. ▸ hlj with h | h
    ·rw [hcl j oj hj h e he hb]; rfl
    ·have : j = i := by simpa using h
     subst this
     rw [ho] at hj
     cases hj
     rw [hdeps e he hb]; rfl
   ·intro j hj hlj
    rw [hset] at hlj
    rcases Bool.or_eq_true .. ▸ hlj with h | h
    ·exact hlk j hj h
    ·have : j = i := by simpa using h
     omega
   ·exact fr_put ok ho hf fun j _ => hset j
  unfold wpOp
  rw [ho]
  simp only
  rcases hst with ⟨hw, hrun⟩ | ⟨hw, hv⟩
  ·rw [if_pos hw]
   refine .inl ?_
   have := hrun w hS
   unfold Oper.wp at this ⊢
   exact upon_imp (fun a' w' ⟨ha', hS'⟩ => ha' ▸ hnext w' hS') this
  ·rw [if_neg (by rw [hw]; simp)]
   rw [← hv]
   exact hnext w hS
def SeqW (P : Program) (ops : Array Oper) (S : World → Prop) (d : List Deferred) (R : Array Value → Prop) : List Oper → Array Value → Prop
 | [], t => R t
 | o :: rest, t => ∃ t' : Array Value, (∀ w, S w → wpList P ops (fun e a' w' => e = .normal ∧ a' = { tmps := t', defers := d } ∧ S w') [o] { tmps := t, defers := d } w) ∧ SeqW P ops S d R rest t'
def putVal (dst : Option Tmp) (t : Array Value) : Value := match dst with | none => undef | some d => t.getD d undef
theorem put_putVal {t F : Array Value} {d : List Deferred} {dst : Option Tmp} {u : Value} (h : ({ tmps := t, defers := d } : Act).put dst u = { tmps := F, defers := d }) :
  ({ tmps := F, defers := d } : Act) = ({ tmps := t, defers := d } : Act).put dst (putVal dst F) := by
 cases dst with
 | none => exact h.symm
 | some x =>
  simp only [Act.put, Act.mk.injEq, and_true] at h ⊢
  subst h
  by_cases hd : x < t.size
  ·simp [putVal, Array.getD_eq_getD_getElem?, hd]
  ·have hd' : t.size ≤ x := Nat.le_of_not_lt hd
   rw [Array.setIfInBounds_eq_of_size_le hd', Array.setIfInBounds_eq_of_size_le hd']
theorem putVal_undef {t F : Array Value} {d : List Deferred} {dst : Option Tmp} (h : ({ tmps := t, defers := d } : Act).put dst undef = { tmps := F, defers := d }) : putVal dst F = undef := by
 cases dst with
 | none => rfl
 | some x =>
  simp only [Act.put, Act.mk.injEq, and_true] at h
  subst h
  simp only [putVal, Array.getD_eq_getD_getElem?, Array.getElem?_setIfInBounds]
  by_cases hd : x < t.size
  ·simp [hd]
  ·simp [hd]
theorem upon_some {o : Oper} {t F : Array Value} {d : List Deferred} {r : Result Next} (h : o.upon P { tmps := t, defers := d } (fun a' w' => a' = { tmps := F, defers := d } ∧ S w') NoOut r) :
  ({ tmps := F, defers := d } : Act) = ({ tmps := t, defers := d } : Act).put o.dst (putVal o.dst F) := by
 cases r with
 | ok n w' =>
  cases n <;> simp only [Oper.upon] at h <;>
   first
    | exact put_putVal h.1
    | (obtain ⟨e, w'', fr, he, _⟩ := h []
       cases e <;> first | exact put_putVal he.1 | exact he.elim | exact (noOut_lets he).elim)
    | (obtain ⟨v, w'', hv, _⟩ := h (Frame.enter P 0 #[] .normal) []
       exact put_putVal hv.1)
    | skip
  rename_i x
  exfalso
  have := congrArg (fun a : Act => a.defers.length) h.1
  cases hd : o.dst <;> simp [hd, Act.put] at this
 | halt x w' => cases x <;> simp only [Oper.upon] at h <;> exact h.elim
theorem wpList_one {o : Oper} {t F : Array Value} {d : List Deferred} {w : World} (h : wpList P ops (fun e a' w' => e = .normal ∧ a' = { tmps := F, defers := d } ∧ S w') [o] { tmps := t, defers := d } w) :
  (Region.wanted o (yielded ops t) = true ∧ o.wp P { tmps := t, defers := d } w (fun a' w' => a' = { tmps := F, defers := d } ∧ S w') NoOut) ∨
  (Region.wanted o (yielded ops t) = false ∧ ({ tmps := t, defers := d } : Act).put o.dst undef = { tmps := F, defers := d }) := by
 unfold wpList at h
 split at h
 ·rename_i hw
  refine .inl ⟨hw, ?_⟩
  rcases h with h | h
  ·unfold Oper.wp at h ⊢
   generalize (execOp ({ tmps := t, defers := d } : Act).eval o).run P w = r at *
   cases r with
   | ok n w' =>
    cases n <;> simp only [Oper.upon, wpList] at h ⊢ <;>
     first
      | exact h.2
      | exact Calls.mono h (fun e w'' he => by cases e <;> first | exact he.2 | exact absurd he.1 (by simp) | (obtain ⟨_, _, h1, _⟩ := he; exact absurd h1 (by simp)))
      | exact Rows.mono h (fun _ _ he => he.2)
   | halt x w' => cases x <;> simp only [Oper.upon] at h ⊢ <;> first | exact h.elim | exact absurd h.1 (by simp)
  ·obtain ⟨_, _, _, h1, _⟩ := h
   exact absurd h1 (by simp)
 ·rename_i hw
  simp only [wpList] at h
  exact .inr ⟨by simpa using hw, h.2.1⟩
theorem seqL_of_W {d : List Deferred} {R : Array Value → Prop} {w0 : World} (h0 : S w0) : ∀ (l : List Oper) (t : Array Value), SeqW P ops S d R l t → SeqL P ops S (fun a => ∃ t, a = { tmps := t, defers := d } ∧ R t) l { tmps := t, defers := d }
 | [], t, h => ⟨t, rfl, h⟩
 | o :: rest, t, h => by
  obtain ⟨F, hF, hr⟩ := h
  have hr' := seqL_of_W h0 rest F hr
  have h1 := wpList_one (hF w0 h0)
  cases hw : Region.wanted o (yielded ops t) with
  | true =>
   rw [hw] at h1
   rcases h1 with ⟨_, h1⟩ | ⟨h1, _⟩
   ·have e := upon_some h1
    refine ⟨putVal o.dst F, .inl ⟨hw, fun w hS => ?_⟩, e ▸ hr'⟩
    rcases wpList_one (hF w hS) with ⟨_, h2⟩ | ⟨h2, _⟩
    ·rw [e] at h2; exact h2
    ·rw [hw] at h2; cases h2
   ·cases h1
  | false =>
   rw [hw] at h1
   rcases h1 with ⟨h1, _⟩ | ⟨_, h1⟩
   ·cases h1
   ·exact ⟨undef, .inr ⟨hw, rfl⟩, h1 ▸ hr'⟩
theorem seqL_split : ∀ (l l' : List Oper) (R : Act → Prop) (a : Act), SeqL P ops S (fun x => SeqL P ops S R l' x) l a → SeqL P ops S R (l ++ l') a
 | [], l', R, a, h => h
 | o :: l, l', R, a, h => by
  obtain ⟨v, h1, h2⟩ := h
  exact ⟨v, h1, seqL_split l l' R _ h2⟩
theorem seq_split (ok : Ok ops) {a0 : Act} {R : Act → Prop} : ∀ (l : List Oper) (i : Nat) (val0 : Nat → Value) (a : Act), (∀ j o, l[j]? = some o → ops[i + j]? = some o) → Fr ops val0 a0 (fun j => decide (j < i)) a → SeqL P ops S R l a →
  ∃ val : Nat → Value, (∀ j, j < i → val j = val0 j) ∧ (∀ k o, i ≤ k → k < i + l.length → ops[k]? = some o → ∃ x, Fr ops val a0 (fun j => decide (j < k)) x ∧ StepV P ops S x o (val k)) ∧
   ∃ x, Fr ops val a0 (fun j => decide (j < i + l.length)) x ∧ R x
 | [], i, val0, a, hl, hf, h => ⟨val0, fun _ _ => rfl, fun k o hk ho => absurd ho (by simp; omega), a, hf, h⟩
 | o :: rest, i, val0, a, hl, hf, h => by
  obtain ⟨v, hs, hrest⟩ := h
  have hi : ops[i]? = some o := hl 0 o (by simp)
  let val1 : Nat → Value := fun j => if j = i then v else val0 j
  have hf1 : Fr ops val1 a0 (fun j => decide (j < i)) a := fr_congr hf (fun _ _ => rfl) (fun j hj => by
   have : j < i := by simpa using hj
   show (if j = i then v else val0 j) = _
   rw [if_neg (by omega)])
  have hv1 : val1 i = v := if_pos rfl
  have hf2 : Fr ops val1 a0 (fun j => decide (j < i + 1)) (a.put o.dst v) := by
   rw [← hv1]
   exact fr_put ok hi hf1 fun j _ => by
    rw [Bool.eq_iff_iff]; simp; omega
  obtain ⟨val, hv, hsteps, hend⟩ := seq_split ok rest (i + 1) val1 (a.put o.dst v) (fun j o' hj => by
   have := hl (j + 1) o' (by simpa using hj)
   rw [show i + 1 + j = i + (j + 1) by omega]; exact this) hf2 hrest
  refine ⟨val, fun j hj => ?_, fun k ok' hk hkl hko => ?_, ?_⟩
  ·rw [hv j (by omega)]
   show (if j = i then v else val0 j) = _
   rw [if_neg (by omega)]
  ·by_cases hki : k = i
   ·subst hki
    rw [hi] at hko
    cases hko
    refine ⟨a, fr_congr hf1 (fun _ _ => rfl) (fun j hj => hv j (Nat.lt_succ_of_lt (by simpa using hj))), ?_⟩
    rw [hv k (by omega), hv1]
    exact hs
   ·exact hsteps k ok' (by omega) (by simp only [List.length_cons] at hkl; omega) hko
  ·rw [show i + (o :: rest).length = i + 1 + rest.length by simp only [List.length_cons]; omega]
   exact hend
theorem rep_false (n i : Nat) : (Array.replicate n false).getD i false = false := by
 rw [Array.getD_eq_getD_getElem?, Array.getElem?_replicate]
 split <;> rfl
theorem region_det {id : Nat} {l : List Oper} {t : Array Value} {d : List Deferred} {w : World} (S : World → Prop) (k : Nat) (hm : P.follows .mixedOrders = true) (hok : okOps l.toArray = true) (ht : tailOk l.toArray k = true) (hk : k ≤ l.length) (hS : S w.drew)
  (h : SeqW P l.toArray S d (fun t' => ∀ w', S w' → wpList P l.toArray Q (l.drop k) { tmps := t', defers := d } w') (l.take k) t) : (Code.region id l.toArray true).wp P Q { tmps := t, defers := d } w := by
 have ok := okOps_spec hok
 have hlen : l.toArray.size = l.length := by simp
 refine wp_region_any hm ?_
 obtain ⟨val, _, hsteps, x, hfx, t', rfl, hR⟩ := seq_split ok (l.take k) 0 (fun _ => undef) { tmps := t, defers := d } (fun j o hj => by
  rw [List.getElem?_take] at hj
  split at hj
  ·simpa using hj
  ·cases hj) (fr_start _ _ _ fun i _ => by simp) (seqL_of_W hS _ _ h)
 have hlk : 0 + (l.take k).length = k := by rw [List.length_take]; omega
 rw [hlk] at hsteps hfx
 refine any_det ok (k := k) (by omega) ht (val := val) (fun i o hi ho => hsteps i o (Nat.zero_le _) hi ho) (fun y hy w' hS' => ?_) _ _ _ _ (by simp) ?_ ?_ ?_ ?_ hS
 ·rw [fr_eq hy hfx fun _ _ => rfl]
  exact hR w' hS'
 ·have : ∀ (L : Nat → Bool) n, cnt L n ≤ n := fun L n => by
   induction n with
   | zero => exact Nat.le_refl _
   | succ n ih => simp only [cnt]; split <;> omega
  exact this _ _
 ·intro i o hi hl
  rw [rep_false] at hl
  cases hl
 ·intro i hi hl
  rw [rep_false] at hl
  cases hl
 ·exact fr_start _ _ _ fun i hi => rep_false _ i
def AtEnd (S : World → Prop) (d : List Deferred) (t' : Array Value) : Exit → Act → World → Prop := fun e a' w' => e = .normal ∧ a' = { tmps := t', defers := d } ∧ S w'
theorem AtEnd.mk {d : List Deferred} {t' : Array Value} {w : World} (h : S w) : AtEnd S d t' .normal { tmps := t', defers := d } w := ⟨rfl, rfl, h⟩
theorem seqW_cons {d : List Deferred} {R : Array Value → Prop} {o : Oper} {rest : List Oper} {t t' : Array Value} (h : ∀ w, S w → wpList P ops (AtEnd S d t') [o] { tmps := t, defers := d } w)
  (hr : SeqW P ops S d R rest t') : SeqW P ops S d R (o :: rest) t := ⟨t', h, hr⟩
theorem seqW_nil {d : List Deferred} {R : Array Value → Prop} {t : Array Value} (h : R t) : SeqW P ops S d R [] t := h
theorem region_all {id : Nat} {l : List Oper} {t : Array Value} {d : List Deferred} {w : World} (S : World → Prop) (hm : P.follows .mixedOrders = true) (hok : okOps l.toArray = true) (hS : S w.drew)
  (h : SeqW P l.toArray S d (fun t' => ∀ w', S w' → Q .normal { tmps := t', defers := d } w') l t) : (Code.region id l.toArray true).wp P Q { tmps := t, defers := d } w := by
 have ht : tailOk l.toArray l.length = true := by
  unfold tailOk
  rw [List.all_eq_true]
  intro j hj
  have : j < l.length := by simpa using hj
  simp [this]
 refine region_det S l.length hm hok ht (Nat.le_refl _) hS ?_
 rw [List.take_of_length_le (Nat.le_refl _), List.drop_of_length_le (Nat.le_refl _)]
 exact h
end Go.Det
namespace Go.Mix
open Go Go.Det
set_option linter.unusedVariables false
variable {P : Program} {ops : Array Oper} {Q : Exit → Act → World → Prop}
def StepG (P : Program) (ops : Array Oper) (S S' : World → Prop) (a : Act) (o : Oper) (v : Value) : Prop :=
 (Region.wanted o (yielded ops a.tmps) = true ∧ ∀ w, S w → o.wp P a w (fun a' w' => a' = a.put o.dst v ∧ S' w') NoOut) ∨
 (Region.wanted o (yielded ops a.tmps) = false ∧ v = undef ∧ ∀ w, S w → S' w)
theorem stepG_same (ok : Ok ops) {S S' : World → Prop} {val : Nat → Value} {a x y : Act} {L L' : Nat → Bool} {i : Nat} {o : Oper} {v : Value} (hi : ops[i]? = some o) (hx : Fr ops val a L x) (hy : Fr ops val a L' y)
  (h : ∀ j oj t, ops[j]? = some oj → oj.dst = some t → t ∈ o.looksAt ops → L j = L' j) (hs : StepG P ops S S' x o v) : StepG P ops S S' y o v := by
 have hev : execOp y.eval o = execOp x.eval o := execOp_congr o (ok.plain i o hi) fun z hz => by
  cases z with
  | tmp t =>
   have := fr_same hx hy t fun j oj hj hd => h j oj t hj hd (List.mem_append_left _ (List.mem_filterMap.2 ⟨.tmp t, by simpa using hz, rfl⟩))
   simp [Act.eval, Array.getD_eq_getD_getElem?, this]
  | _ => rfl
 have hw : Region.wanted o (yielded ops y.tmps) = Region.wanted o (yielded ops x.tmps) := by
  unfold Region.wanted
  cases hg : o.guard with
  | none => rfl
  | some gw =>
   obtain ⟨g, want⟩ := gw
   have : yielded ops y.tmps g = yielded ops x.tmps g := by
    unfold yielded
    cases ht : (ops[g]?).bind (·.dst) with
    | none => rfl
    | some t =>
     have := fr_same hx hy t fun j oj hj hd => h j oj t hj hd (by simp [Oper.looksAt, hg, ht])
     simp [this]
   simp only [this]
 have hsz : y.tmps.size = x.tmps.size := by rw [hx.2.1, hy.2.1]
 rcases hs with ⟨h1, h2⟩ | h1
 ·refine .inl ⟨by rw [hw]; exact h1, fun w hS => ?_⟩
  have := h2 w hS
  unfold Oper.wp at this ⊢
  rw [hev]
  exact upon_same hsz this
 ·exact .inr (by rw [hw]; exact h1)
def tailOk (ops : Array Oper) (k : Nat) (es : List Nat) : Bool := (List.range ops.size).all fun j => decide (j < k) || es.contains j || (List.range j).all fun i => es.contains i || waits ops ops.size j i
theorem tail_waits {k : Nat} {es : List Nat} (ht : tailOk ops k es = true) {j i : Nat} (hj : j < ops.size) (hk : k ≤ j) (he : es.contains j = false) (hi : i < j) (hei : es.contains i = false) : waits ops ops.size j i = true := by
 have := List.all_eq_true.1 ht j (List.mem_range.2 hj)
 simp only [Bool.or_eq_true, decide_eq_true_eq, he, Bool.false_eq_true, or_false] at this
 rcases this with h | h
 ·omega
 ·have := List.all_eq_true.1 h i (List.mem_range.2 hi)
  simpa only [hei, Bool.false_or] using this
def rest (ops : Array Oper) (es : List Nat) : Nat → Nat → List Oper
 | 0, _ => []
 | n + 1, m => match ops[m]? with
  | none => []
  | some o => if es.contains m then rest ops es n (m + 1) else o :: rest ops es n (m + 1)
def esOk (ops : Array Oper) (es : List Nat) : Bool := es.all fun j => match ops[j]? with | some o => o.after.all fun e => !Region.binds .any e || es.contains e.on | none => false
theorem esOk_spec {es : List Nat} (h : esOk ops es = true) {j : Nat} {o : Oper} (hj : ops[j]? = some o) (hc : es.contains j = true) : ∀ e ∈ o.after, Region.binds .any e = true → es.contains e.on = true := fun e he hb => by
 have h1 := List.all_eq_true.1 h j (by simpa using hc)
 simp only [hj] at h1
 have h2 := (Array.all_eq_true_iff_forall_mem.1 h1) e he
 simpa [hb] using h2
theorem any_tail (ok : Ok ops) {k : Nat} {es : List Nat} (hes : esOk ops es = true) (ht : tailOk ops k es = true) : ∀ (n m fuel : Nat) (listed : Array Bool) (a : Act) (w : World), listed.size = ops.size → (∀ i, i < ops.size → listed.getD i false = (decide (i < m) || es.contains i)) →
  k ≤ m → m + n = ops.size → (rest ops es n m).length ≤ fuel → wpList P ops Q (rest ops es n m) a w → wpAny P .any ops Q fuel listed a w := by
 intro n
 induction n with
 | zero =>
  intro m fuel listed a w hsz hL hk hm hf h
  simp only [rest, wpList] at h
  refine wpAny_done ?_ h fuel
  rw [List.eq_nil_iff_forall_not_mem]
  intro i hi
  have hi' := ready_lt hi
  have := ((ready_iff hsz (Array.getElem?_eq_getElem hi')).1 hi).1
  rw [hL i hi'] at this
  simp at this
  omega
 | succ n ih =>
  intro m fuel listed a w hsz hL hk hm hf h
  have hml : m < ops.size := by omega
  have ho : ops[m]? = some ops[m] := Array.getElem?_eq_getElem hml
  cases hem : es.contains m with
  | true =>
   simp only [rest, ho, hem, if_true] at h hf
   refine ih (m + 1) fuel listed a w hsz (fun i hi => ?_) (by omega) (by omega) hf h
   rw [hL i hi, Bool.eq_iff_iff]
   by_cases him : i = m
   ·subst him; simp only [hem, Bool.or_true]
   ·simp only [Bool.or_eq_true, decide_eq_true_eq]
    constructor <;> (rintro (h | h) <;> first | exact .inr h | exact .inl (by omega))
  | false =>
   simp only [rest, ho, hem, Bool.false_eq_true, if_false] at h hf
   cases fuel with
   | zero => simp at hf
   | succ fuel =>
   have hunl : listed.getD m false = false := by rw [hL m hml, hem]; simp
   have hcl : ∀ (j : Nat) (o : Oper), ops[j]? = some o → listed.getD j false = true → ∀ e ∈ o.after, Region.binds .any e = true → listed.getD e.on false = true := fun j o hj hl e he hb => by
    have hb' := ok.back j o hj e he hb
    have hj' := lt_of_some hj
    rw [hL j hj'] at hl
    rw [hL e.on (by omega)]
    rcases Bool.or_eq_true .. ▸ hl with h1 | h1
    ·have : e.on < m := by have := of_decide_eq_true h1; omega
     simp [this]
    ·rw [esOk_spec hes hj h1 e he hb]; simp
   have only : ∀ i, i ∈ Region.ready .any ops listed → i = m := fun i hi => by
    have hi' := ready_lt hi
    obtain ⟨h1, h2⟩ := (ready_iff hsz (Array.getElem?_eq_getElem hi')).1 hi
    rw [hL i hi'] at h1
    simp only [Bool.or_eq_false_iff, decide_eq_false_iff_not] at h1
    rcases Nat.lt_or_ge m i with h3 | h3
    ·exfalso
     have hw := tail_waits ht hi' (by omega) h1.2 h3 hem
     have := waits_listed hcl ops.size i m (fun o ho e he hb => by
      rw [Array.getElem?_eq_getElem hi'] at ho
      cases ho
      exact h2 e he hb) hw
     rw [hunl] at this
     cases this
    ·omega
   refine ⟨fun hr => ?_, fun i hi => ?_⟩
   ·have := least_ready ok hsz hr m hml
    rw [hunl] at this
    cases this
   ·obtain rfl := only i hi
    have hnext : ∀ a w, wpList P ops Q (rest ops es n (i + 1)) a w → wpAny P .any ops Q fuel (listed.setIfInBounds i true) a w := fun a w h' =>
     ih (i + 1) fuel _ a w (by simpa using hsz) (fun j hj => by
      rw [set_getD (by omega), hL j hj, Bool.eq_iff_iff]
      simp only [Bool.or_eq_true, decide_eq_true_eq, beq_iff_eq]
      constructor
      ·rintro ((h1 | h1) | h1)
       ·exact .inl (by omega)
       ·exact .inr h1
       ·exact .inl (by omega)
      ·rintro (h1 | h1)
       ·rcases Nat.lt_or_ge j i with h2 | h2
        ·exact .inl (.inl h2)
        ·exact .inr (by omega)
       ·exact .inl (.inr h1)) (by omega) (by omega) (by simp only [List.length_cons] at hf; omega) h'
    unfold wpOp
    rw [ho]
    simp only
    unfold wpList at h
    split
    ·rename_i hw
     rw [if_pos hw] at h
     exact h.imp (Oper.wp_mono hnext) id
    ·rename_i hw
     rw [if_neg hw] at h
     exact hnext _ _ h
theorem rest_len {es : List Nat} {L : Nat → Bool} : ∀ (n m : Nat), (∀ i, m ≤ i → i < m + n → es.contains i = false → L i = false) → (rest ops es n m).length + cnt L m ≤ cnt L (m + n)
 | 0, m, _ => by simp [rest]
 | n + 1, m, h => by
  have ih := rest_len n (m + 1) fun i hi hin he => h i (by omega) (by omega) he
  rw [show m + 1 + n = m + (n + 1) by omega] at ih
  have hc : cnt L m ≤ cnt L (m + 1) := by simp only [cnt]; omega
  have hm : ∀ n, cnt L m ≤ cnt L (m + n) := fun n => by
   induction n with
   | zero => exact Nat.le_refl _
   | succ n ihn => exact Nat.le_trans ihn (by rw [show m + (n + 1) = (m + n) + 1 by omega]; simp only [cnt]; omega)
  simp only [rest]
  split
  ·simp only [List.length_nil]; have := hm (n + 1); omega
  ·split
   ·omega
   ·rename_i he
    have hl := h m (Nat.le_refl _) (by omega) (by simpa using he)
    have hc1 : cnt L (m + 1) = cnt L m + 1 := by simp only [cnt, hl, Bool.false_eq_true, if_false]
    simp only [List.length_cons]
    omega
theorem any_mix (ok : Ok ops) {S : Bool → World → Prop} {μ k : Nat} {es : List Nat} (hes : esOk ops es = true) (hμ : es.contains μ = false) (hkn : k ≤ ops.size) (ht : tailOk ops k es = true) {val : Nat → Value} {a0 : Act}
  (hsteps : ∀ i o, i < k → es.contains i = false → ops[i]? = some o → ∃ x, Fr ops val a0 (fun j => decide (j < i) || es.contains j) x ∧ (if i = μ then StepG P ops (S false) (S true) x o (val i) else ∀ b, StepG P ops (S b) (S b) x o (val i)))
  (hend : ∀ x, Fr ops val a0 (fun j => decide (j < k) || es.contains j) x → ∀ w, S (decide (μ < k)) w → wpList P ops Q (rest ops es (ops.size - k) k) x w) : ∀ (fuel : Nat) (listed : Array Bool) (a : Act) (w : World), listed.size = ops.size →
  cnt (fun i => listed.getD i false) ops.size ≤ fuel → (∀ i o, ops[i]? = some o → listed.getD i false = true → ∀ e ∈ o.after, Region.binds .any e = true → listed.getD e.on false = true) →
  (∀ i, i < ops.size → listed.getD i false = true → i < k ∨ es.contains i = true) → (∀ i, i < ops.size → es.contains i = true → listed.getD i false = true) →
  Fr ops val a0 (fun i => listed.getD i false) a → S (listed.getD μ false) w → wpAny P .any ops Q fuel listed a w := by
 have fin : ∀ (fuel : Nat) (listed : Array Bool) (a : Act) (w : World), listed.size = ops.size →
  cnt (fun i => listed.getD i false) ops.size ≤ fuel →
  (∀ i, i < ops.size → listed.getD i false = true → i < k ∨ es.contains i = true) → (∀ i, i < ops.size → es.contains i = true → listed.getD i false = true) →
  Fr ops val a0 (fun i => listed.getD i false) a → S (listed.getD μ false) w → (∀ i, i < k → listed.getD i false = true) → wpAny P .any ops Q fuel listed a w := by
  intro fuel listed a w hsz hc hlk hel hf hS hdone
  have hL : ∀ i, i < ops.size → listed.getD i false = (decide (i < k) || es.contains i) := fun i hi => by
   by_cases hik : i < k
   ·rw [hdone i hik]; simp [hik]
   ·cases he : es.contains i with
    | true => rw [hel i hi he]; simp
    | false =>
     have : listed.getD i false ≠ true := fun h => by
      rcases hlk i hi h with h | h
      ·exact hik h
      ·rw [he] at h; cases h
     simp only [Bool.not_eq_true] at this
     rw [this]; simp [hik]
  have hb : listed.getD μ false = decide (μ < k) := by
   rcases Nat.lt_or_ge μ ops.size with h | h
   ·rw [hL μ h, hμ]; simp
   ·rw [Array.getD_eq_getD_getElem?, Array.getElem?_eq_none (by omega)]
    simp; omega
  rw [hb] at hS
  refine any_tail ok hes ht (ops.size - k) k fuel listed a w hsz hL (Nat.le_refl _) (by omega) ?_ (hend a (fr_congr hf (fun j hj => (hL j hj).symm) (fun _ _ => rfl)) w hS)
  have := rest_len (ops := ops) (es := es) (L := fun i => listed.getD i false) (ops.size - k) k fun i hi hin he => by
   show listed.getD i false = false
   rw [hL i (by omega), he]; simp; omega
  rw [show k + (ops.size - k) = ops.size by omega] at this
  omega
 intro fuel
 induction fuel with
 | zero =>
  intro listed a w hsz hc hcl hlk hel hf hS
  have hall := cnt_zero _ _ (Nat.le_zero.1 hc)
  exact fin 0 listed a w hsz hc hlk hel hf hS fun i hi => hall i (by omega)
 | succ fuel ih =>
  intro listed a w hsz hc hcl hlk hel hf hS
  by_cases hdone : ∀ i, i < k → listed.getD i false = true
  ·exact fin _ listed a w hsz hc hlk hel hf hS hdone
  refine ⟨fun hr => absurd (fun i hi => least_ready ok hsz hr i (by omega)) hdone, fun i hi => ?_⟩
  have hin : i < ops.size := ready_lt hi
  have hil : i < listed.size := by omega
  obtain ⟨o, ho⟩ : ∃ o, ops[i]? = some o := ⟨_, Array.getElem?_eq_getElem hin⟩
  obtain ⟨hlf, hdeps⟩ := (ready_iff hsz ho).1 hi
  have hie : es.contains i = false := by
   cases he : es.contains i with
   | false => rfl
   | true => rw [hel i hin he] at hlf; cases hlf
  have hik : i < k := by
   rcases Nat.lt_or_ge i k with h | h
   ·exact h
   ·exfalso
    refine hdone fun j hj => ?_
    cases hej : es.contains j with
    | true => exact hel j (by omega) hej
    | false =>
     have hw := tail_waits ht hin h hie (show j < i by omega) hej
     exact waits_listed hcl ops.size i j (fun o' ho' e he hb => by
      rw [ho] at ho'
      cases ho'
      exact hdeps e he hb) hw
  have hset : ∀ j, (listed.setIfInBounds i true).getD j false = (listed.getD j false || j == i) := fun j => set_getD hil j
  obtain ⟨x, hfx, hsx⟩ := hsteps i o hik hie ho
  have look : ∀ j oj t, ops[j]? = some oj → oj.dst = some t → t ∈ o.looksAt ops → (decide (j < i) || es.contains j) = listed.getD j false := fun j oj t hj hd ht => by
   rcases ok.reads i o j oj t ho hj hd ht with ⟨e, he, hb, rfl⟩ | ⟨hne, e, he, hb, hei⟩
   ·rw [hdeps e he hb]
    have := ok.back i o ho e he hb
    simp [this]
   ·have hlt : i < j := hei ▸ ok.back j oj hj e he hb
    have hlj : listed.getD j false = false := by
     cases hlj : listed.getD j false with
     | false => rfl
     | true =>
      have := hcl j oj hj hlj e he hb
      rw [hei, hlf] at this
      cases this
    rw [hlj]
    have : es.contains j = false := by
     cases hej : es.contains j with
     | false => rfl
     | true => rw [hel j (lt_of_some hj) hej] at hlj; cases hlj
    rw [this]
    simp; omega
  have hnext : ∀ w', S ((listed.setIfInBounds i true).getD μ false) w' → wpAny P .any ops Q fuel (listed.setIfInBounds i true) (a.put o.dst (val i)) w' := fun w' hS' => by
   refine ih _ _ _ (by simpa using hsz) ?_ ?_ ?_ ?_ ?_ hS'
   ·have := (cnt_set (fun j => listed.getD j false) (fun j => (listed.setIfInBounds i true).getD j false) i hlf hset ops.size).1 hin
    omega
   ·intro j oj hj hlj e he hb
    rw [hset] at hlj ⊢
    rcases Bool.or_eq_true .. ▸ hlj with h | h
    ·rw [hcl j oj hj h e he hb]; rfl
    ·have : j = i := by simpa using h
     subst this
     rw [ho] at hj
     cases hj
     rw [hdeps e he hb]; rfl
   ·intro j hj hlj
    rw [hset] at hlj
    rcases Bool.or_eq_true .. ▸ hlj with h | h
    ·exact hlk j hj h
    ·have : j = i := by simpa using h
     exact .inl (by omega)
   ·intro j hj he
    rw [hset, hel j hj he]; rfl
   ·exact fr_put ok ho hf fun j _ => hset j
  have go : ∀ S1 S2 : World → Prop, S1 w → (∀ w', S2 w' → S ((listed.setIfInBounds i true).getD μ false) w') → StepG P ops S1 S2 a o (val i) → wpOp P ops Q i (wpAny P .any ops Q fuel (listed.setIfInBounds i true)) a w := by
   intro S1 S2 h1 h2 hst
   unfold wpOp
   rw [ho]
   simp only
   rcases hst with ⟨hw, hrun⟩ | ⟨hw, hv, hs⟩
   ·rw [if_pos hw]
    refine .inl ?_
    have := hrun w h1
    unfold Oper.wp at this ⊢
    exact upon_imp (fun a' w' ⟨ha', hS'⟩ => ha' ▸ hnext w' (h2 _ hS')) this
   ·rw [if_neg (by rw [hw]; simp)]
    rw [← hv]
    exact hnext w (h2 _ (hs _ h1))
  by_cases hiμ : i = μ
  ·rw [if_pos hiμ] at hsx
   refine go (S false) (S true) ?_ (fun w' h => ?_) (stepG_same ok ho hfx hf look hsx)
   ·rw [← hiμ, hlf] at hS; exact hS
   ·rw [← hiμ, hset]; simpa using h
  ·rw [if_neg hiμ] at hsx
   refine go _ _ hS (fun w' h => ?_) (stepG_same ok ho hfx hf look (hsx _))
   rw [hset, show (μ == i) = false by simpa using Ne.symm hiμ, Bool.or_false]
   exact h
theorem wpList_one2 {S' : World → Prop} {o : Oper} {t F : Array Value} {d : List Deferred} {w : World} (h : wpList P ops (AtEnd S' d F) [o] { tmps := t, defers := d } w) :
  (Region.wanted o (yielded ops t) = true ∧ o.wp P { tmps := t, defers := d } w (fun a' w' => a' = { tmps := F, defers := d } ∧ S' w') NoOut) ∨
  (Region.wanted o (yielded ops t) = false ∧ ({ tmps := t, defers := d } : Act).put o.dst undef = { tmps := F, defers := d } ∧ S' w) := by
 rcases wpList_one (S := S') h with h1 | h1
 ·exact .inl h1
 ·refine .inr ⟨h1.1, h1.2, ?_⟩
  unfold wpList at h
  rw [if_neg (by rw [h1.1]; simp)] at h
  simp only [wpList, AtEnd] at h
  exact h.2.2
def SeqM (P : Program) (ops : Array Oper) (S : Bool → World → Prop) (μ : Nat) (es : List Nat) (d : List Deferred) (R : Array Value → Prop) : Nat → List Oper → Array Value → Prop
 | _, [], t => R t
 | i, o :: l, t => if es.contains i then SeqM P ops S μ es d R (i + 1) l t else
   ∃ t' : Array Value, (if i = μ then ∀ w, S false w → wpList P ops (AtEnd (S true) d t') [o] { tmps := t, defers := d } w
    else ∀ b w, S b w → wpList P ops (AtEnd (S b) d t') [o] { tmps := t, defers := d } w) ∧ SeqM P ops S μ es d R (i + 1) l t'
theorem seqM_nil {S : Bool → World → Prop} {μ i : Nat} {es : List Nat} {d : List Deferred} {R : Array Value → Prop} {t : Array Value} (h : R t) : SeqM P ops S μ es d R i [] t := h
theorem seqM_skip {S : Bool → World → Prop} {μ i : Nat} {es : List Nat} {d : List Deferred} {R : Array Value → Prop} {o : Oper} {l : List Oper} {t : Array Value} (he : es.contains i = true)
  (h : SeqM P ops S μ es d R (i + 1) l t) : SeqM P ops S μ es d R i (o :: l) t := by
 simp only [SeqM, he, if_true]; exact h
theorem seqM_cons {S : Bool → World → Prop} {μ i : Nat} {es : List Nat} {d : List Deferred} {R : Array Value → Prop} {o : Oper} {l : List Oper} {t t' : Array Value} (he : es.contains i = false) (hμ : (i == μ) = false)
  (h : ∀ b w, S b w → wpList P ops (AtEnd (S b) d t') [o] { tmps := t, defers := d } w) (hr : SeqM P ops S μ es d R (i + 1) l t') : SeqM P ops S μ es d R i (o :: l) t := by
 simp only [SeqM, he, Bool.false_eq_true, if_false]
 exact ⟨t', by rw [if_neg (by simpa using hμ)]; exact h, hr⟩
theorem seqM_main {S : Bool → World → Prop} {μ : Nat} {es : List Nat} {d : List Deferred} {R : Array Value → Prop} {o : Oper} {l : List Oper} {t t' : Array Value} (he : es.contains μ = false)
  (h : ∀ w, S false w → wpList P ops (AtEnd (S true) d t') [o] { tmps := t, defers := d } w) (hr : SeqM P ops S μ es d R (μ + 1) l t') : SeqM P ops S μ es d R μ (o :: l) t := by
 simp only [SeqM, he, Bool.false_eq_true, if_false]
 exact ⟨t', by rw [if_pos trivial]; exact h, hr⟩
theorem stepG_of {S S' : World → Prop} {o : Oper} {t F : Array Value} {d : List Deferred} {v : Value} (hv : Region.wanted o (yielded ops t) = false → v = undef)
  (he : ({ tmps := F, defers := d } : Act) = ({ tmps := t, defers := d } : Act).put o.dst v) (h : ∀ w, S w → wpList P ops (AtEnd S' d F) [o] { tmps := t, defers := d } w) : StepG P ops S S' { tmps := t, defers := d } o v := by
 cases hw : Region.wanted o (yielded ops t) with
 | true =>
  refine .inl ⟨hw, fun w hS => ?_⟩
  rcases wpList_one2 (h w hS) with ⟨_, h2⟩ | ⟨h2, _⟩
  ·rw [he] at h2; exact h2
  ·rw [hw] at h2; cases h2
 | false =>
  refine .inr ⟨hw, hv hw, fun w hS => ?_⟩
  rcases wpList_one2 (h w hS) with ⟨h2, _⟩ | ⟨_, _, h2⟩
  ·rw [hw] at h2; cases h2
  ·exact h2
theorem put_of {S' : World → Prop} {o : Oper} {t F : Array Value} {d : List Deferred} {w : World} (h : wpList P ops (AtEnd S' d F) [o] { tmps := t, defers := d } w) :
  ∃ v, (Region.wanted o (yielded ops t) = false → v = undef) ∧ ({ tmps := F, defers := d } : Act) = ({ tmps := t, defers := d } : Act).put o.dst v := by
 rcases wpList_one2 h with ⟨hw, h2⟩ | ⟨hw, h2, _⟩
 ·exact ⟨_, fun h => (by rw [hw] at h; cases h), upon_some (S := S') h2⟩
 ·exact ⟨undef, fun _ => rfl, h2.symm⟩
theorem seqM_vals (ok : Ok ops) {S : Bool → World → Prop} {μ : Nat} {es : List Nat} {d : List Deferred} {R : Array Value → Prop} {a0 : Act} {w0 : World} (h0 : S false w0) : ∀ (l : List Oper) (i : Nat) (val0 : Nat → Value) (t : Array Value),
  (∀ j o, l[j]? = some o → ops[i + j]? = some o) → Fr ops val0 a0 (fun j => decide (j < i) || es.contains j) { tmps := t, defers := d } → SeqM P ops S μ es d R i l t →
  ∃ val : Nat → Value, (∀ j, (j < i ∨ es.contains j = true) → val j = val0 j) ∧ (∀ k o, i ≤ k → k < i + l.length → es.contains k = false → ops[k]? = some o → ∃ x, Fr ops val a0 (fun j => decide (j < k) || es.contains j) x ∧
   (if k = μ then StepG P ops (S false) (S true) x o (val k) else ∀ b, StepG P ops (S b) (S b) x o (val k))) ∧
   ∃ t', Fr ops val a0 (fun j => decide (j < i + l.length) || es.contains j) { tmps := t', defers := d } ∧ R t'
 | [], i, val0, t, hl, hf, h => ⟨val0, fun _ _ => rfl, fun k o hk ho => absurd ho (by simp; omega), t, hf, h⟩
 | o :: rest, i, val0, t, hl, hf, h => by
  have hi : ops[i]? = some o := hl 0 o (by simp)
  have hl' : ∀ j o', rest[j]? = some o' → ops[i + 1 + j]? = some o' := fun j o' hj => by
   have := hl (j + 1) o' (by simpa using hj)
   rw [show i + 1 + j = i + (j + 1) by omega]; exact this
  have hlen : i + (o :: rest).length = i + 1 + rest.length := by simp only [List.length_cons]; omega
  rw [hlen]
  cases he : es.contains i with
  | true =>
   simp only [SeqM, he, if_true] at h
   have hf1 : Fr ops val0 a0 (fun j => decide (j < i + 1) || es.contains j) { tmps := t, defers := d } := fr_congr hf (fun j hj => by
    rw [Bool.eq_iff_iff]
    simp only [Bool.or_eq_true, decide_eq_true_eq]
    constructor
    ·rintro (h1 | h1)
     ·rcases Nat.lt_or_ge j i with h2 | h2
      ·exact .inl h2
      ·obtain rfl : j = i := by omega
       exact .inr he
     ·exact .inr h1
    ·rintro (h1 | h1)
     ·exact .inl (by omega)
     ·exact .inr h1) (fun _ _ => rfl)
   obtain ⟨val, hv, hsteps, hend⟩ := seqM_vals ok h0 rest (i + 1) val0 t hl' hf1 h
   refine ⟨val, fun j hj => hv j (hj.imp (by omega) id), fun k ok' hk hkl hke hko => ?_, hend⟩
   by_cases hki : k = i
   ·subst hki; rw [he] at hke; cases hke
   ·exact hsteps k ok' (by omega) hkl hke hko
  | false =>
   simp only [SeqM, he, Bool.false_eq_true, if_false] at h
   obtain ⟨F, hF, hrest⟩ := h
   have hput : ∃ v, (Region.wanted o (yielded ops t) = false → v = undef) ∧ ({ tmps := F, defers := d } : Act) = ({ tmps := t, defers := d } : Act).put o.dst v := by
    by_cases hiμ : i = μ
    ·rw [if_pos hiμ] at hF; exact put_of (hF w0 h0)
    ·rw [if_neg hiμ] at hF; exact put_of (hF false w0 h0)
   obtain ⟨v, hvu, hput⟩ := hput
   have hst : if i = μ then StepG P ops (S false) (S true) { tmps := t, defers := d } o v else ∀ b, StepG P ops (S b) (S b) { tmps := t, defers := d } o v := by
    by_cases hiμ : i = μ
    ·rw [if_pos hiμ] at hF ⊢
     exact stepG_of hvu hput hF
    ·rw [if_neg hiμ] at hF ⊢
     exact fun b => stepG_of hvu hput (hF b)
   let val1 : Nat → Value := fun j => if j = i then v else val0 j
   have hne : ∀ j, (decide (j < i) || es.contains j) = true → j ≠ i := fun j hj hji => by
    subst hji
    rw [he] at hj
    simp at hj
   have hf1 : Fr ops val1 a0 (fun j => decide (j < i) || es.contains j) { tmps := t, defers := d } := fr_congr hf (fun _ _ => rfl) (fun j hj => by
    show (if j = i then v else val0 j) = _
    rw [if_neg (hne j hj)])
   have hv1 : val1 i = v := if_pos rfl
   have hf2 : Fr ops val1 a0 (fun j => decide (j < i + 1) || es.contains j) { tmps := F, defers := d } := by
    rw [hput, ← hv1]
    exact fr_put ok hi hf1 fun j _ => by
     rw [Bool.eq_iff_iff]
     simp only [Bool.or_eq_true, decide_eq_true_eq, beq_iff_eq]
     constructor
     ·rintro (h1 | h1)
      ·rcases Nat.lt_or_ge j i with h2 | h2
       ·exact .inl (.inl h2)
       ·exact .inr (by omega)
      ·exact .inl (.inr h1)
     ·rintro ((h1 | h1) | h1)
      ·exact .inl (by omega)
      ·exact .inr h1
      ·exact .inl (by omega)
   obtain ⟨val, hv, hsteps, hend⟩ := seqM_vals ok h0 rest (i + 1) val1 F hl' hf2 hrest
   refine ⟨val, fun j hj => ?_, fun k ok' hk hkl hke hko => ?_, hend⟩
   ·rw [hv j (hj.imp (by omega) id)]
    show (if j = i then v else val0 j) = _
    rw [if_neg (hne j (by rcases hj with h1 | h1 <;> rw [Bool.or_eq_true] <;> first | exact .inl (decide_eq_true h1) | exact .inr h1))]
   ·by_cases hki : k = i
    ·subst hki
     rw [hi] at hko
     cases hko
     refine ⟨_, fr_congr hf1 (fun _ _ => rfl) (fun j hj => hv j ?_), ?_⟩
     ·rcases Bool.or_eq_true .. ▸ hj with h1 | h1
      ·exact .inl (Nat.lt_succ_of_lt (of_decide_eq_true h1))
      ·exact .inr h1
     ·rw [hv k (by omega), hv1]
      exact hst
    ·exact hsteps k ok' (by omega) hkl hke hko
def SeqE (P : Program) (ops : Array Oper) (d : List Deferred) (R : Array Value → Prop) : List Nat → Array Value → Prop
 | [], t => R t
 | e :: es, t => ∃ o, ops[e]? = some o ∧ ∃ (v : Value) (t' : Array Value), Yields P ops o v { tmps := t, defers := d } ∧ ({ tmps := t, defers := d } : Act).put o.dst v = { tmps := t', defers := d } ∧ SeqE P ops d R es t'
theorem seqE_nil {d : List Deferred} {R : Array Value → Prop} {t : Array Value} (h : R t) : SeqE P ops d R [] t := h
theorem seqE_cons {d : List Deferred} {R : Array Value → Prop} {e : Nat} {es : List Nat} {t t' : Array Value} (o : Oper) (v : Value) (ho : ops[e]? = some o) (hw : Region.wanted o (yielded ops t) = true)
  (hv : ∀ w, (execOp ({ tmps := t, defers := d } : Act).eval o).run P w = .ok (.value v) w) (ht : ({ tmps := t, defers := d } : Act).put o.dst v = { tmps := t', defers := d }) (hr : SeqE P ops d R es t') : SeqE P ops d R (e :: es) t :=
 ⟨o, ho, v, t', .inl ⟨hw, hv⟩, ht, hr⟩
def takeOk (ops : Array Oper) : List Nat → Array Bool → Bool
 | [], _ => true
 | e :: es, listed => (Region.ready .any ops listed).contains e && Region.free .any ops listed e && takeOk ops es (listed.setIfInBounds e true)
theorem any_take {d : List Deferred} {R : Array Value → Prop} {w : World} {a0 : Act} (ok : Ok ops) (hs : Region.noSelect ops = true) (hQ : ∀ c (a : Act) dst v w, Q (.panic c) (a.put dst v) w → Q (.panic c) a w) :
  ∀ (es : List Nat) (listed : Array Bool) (fuel : Nat) (t : Array Value) (val0 : Nat → Value), listed.size = ops.size → takeOk ops es listed = true → Fr ops val0 a0 (fun j => listed.getD j false) { tmps := t, defers := d } → SeqE P ops d R es t →
   (∀ (t' : Array Value) (val : Nat → Value), Fr ops val a0 (fun j => (es.foldl (fun L e => L.setIfInBounds e true) listed).getD j false) { tmps := t', defers := d } → R t' → wpAny P .any ops Q fuel (es.foldl (fun L e => L.setIfInBounds e true) listed) { tmps := t', defers := d } w) →
   wpAny P .any ops Q (fuel + es.length) listed { tmps := t, defers := d } w
 | [], listed, fuel, t, val0, hsz, htk, hf, h, hk => hk t val0 hf h
 | e :: es, listed, fuel, t, val0, hsz, htk, hf, h, hk => by
  obtain ⟨o, ho, v, t', hy, hp, hr⟩ := h
  simp only [takeOk, Bool.and_eq_true] at htk
  have hrd : e ∈ Region.ready .any ops listed := by simpa using htk.1.1
  have hlf := ((ready_iff hsz ho).1 hrd).1
  have hin := lt_of_some ho
  let val1 : Nat → Value := fun j => if j = e then v else val0 j
  have hf1 : Fr ops val1 a0 (fun j => listed.getD j false) { tmps := t, defers := d } := fr_congr hf (fun _ _ => rfl) (fun j hj => by
   show (if j = e then v else val0 j) = _
   rw [if_neg]
   rintro rfl
   rw [hlf] at hj
   cases hj)
  have hv1 : val1 e = v := if_pos rfl
  refine wpAny_take (fuel := fuel + es.length) ho hs htk.1.2 htk.1.1 (fun c a w => hQ c a _ _ w) hy ?_
  rw [hp]
  refine any_take ok hs hQ es (listed.setIfInBounds e true) fuel t' val1 (by simpa using hsz) htk.2 ?_ hr hk
  rw [← hp, ← hv1]
  exact fr_put ok ho hf1 fun j _ => set_getD (by omega) j
theorem fold_getD {n : Nat} : ∀ (es : List Nat) (L : Array Bool), L.size = n → (∀ e ∈ es, e < n) → (es.foldl (fun L e => L.setIfInBounds e true) L).size = n ∧ ∀ j, (es.foldl (fun L e => L.setIfInBounds e true) L).getD j false = (L.getD j false || es.contains j)
 | [], L, h, _ => ⟨h, fun j => by simp⟩
 | e :: es, L, h, hlt => by
  obtain ⟨h1, h2⟩ := fold_getD es (L.setIfInBounds e true) (by simpa using h) (fun x hx => hlt x (List.mem_cons_of_mem _ hx))
  refine ⟨h1, fun j => ?_⟩
  have he : e < L.size := by have := hlt e (by simp); omega
  rw [List.foldl_cons, h2 j, set_getD he]
  rw [List.contains_cons, Bool.or_assoc]
def mixOk (ops : Array Oper) (μ k : Nat) (es : List Nat) : Bool :=
 okOps ops && esOk ops es && !es.contains μ && tailOk ops k es && decide (k ≤ ops.size) && takeOk ops es (Array.replicate ops.size false) && Region.noSelect ops && decide (cnt (fun j => es.contains j) ops.size + es.length ≤ ops.size)
theorem region_mix {id : Nat} {l : List Oper} {t : Array Value} {d : List Deferred} {w : World} (S : Bool → World → Prop) (μ k : Nat) (es : List Nat) (hm : P.follows .mixedOrders = true) (hok : mixOk l.toArray μ k es = true)
  (hQ0 : ∀ c (a : Act) (x : Tmp) v w, Q (.panic c) (a.put (some x) v) w → Q (.panic c) a w) (hS : S false w.drew)
  (h : SeqE P l.toArray d (fun t' => SeqM P l.toArray S μ es d (fun t'' => ∀ w', S (decide (μ < k)) w' → wpList P l.toArray Q (rest l.toArray es (l.length - k) k) { tmps := t'', defers := d } w') 0 (l.take k) t') es t) :
  (Code.region id l.toArray true).wp P Q { tmps := t, defers := d } w := by
 have hQ : ∀ c (a : Act) dst v w, Q (.panic c) (a.put dst v) w → Q (.panic c) a w := fun c a dst v w h => by
  cases dst with
  | none => exact h
  | some x => exact hQ0 c a x v w h
 simp only [mixOk, Bool.and_eq_true, decide_eq_true_eq, Bool.not_eq_true'] at hok
 obtain ⟨⟨⟨⟨⟨⟨⟨hok, hes⟩, hμ⟩, ht⟩, hk⟩, htk⟩, hns⟩, hcnt⟩ := hok
 have ok := okOps_spec hok
 have hlen : l.toArray.size = l.length := by simp
 have helt : ∀ e ∈ es, e < l.toArray.size := fun e he => by
  have := List.all_eq_true.1 hes e he
  cases ho : l.toArray[e]? with
  | none => rw [ho] at this; simp at this
  | some o => exact lt_of_some ho
 refine wp_region_any hm ?_
 obtain ⟨f, hf⟩ : ∃ f, l.toArray.size = f + es.length := ⟨l.toArray.size - es.length, by omega⟩
 have hfold := fold_getD (n := l.toArray.size) es (Array.replicate l.toArray.size false) (by simp) helt
 have hgd : ∀ j, (es.foldl (fun L e => L.setIfInBounds e true) (Array.replicate l.toArray.size false)).getD j false = es.contains j := fun j => by rw [hfold.2 j, rep_false]; simp
 have main : wpAny P .any l.toArray Q (f + es.length) (Array.replicate l.toArray.size false) { tmps := t, defers := d } { w with drawn := w.drawn + 1 } := by
  refine any_take (R := _) ok hns hQ es _ f t (fun _ => undef) (by simp) htk (fr_start _ _ _ fun i _ => rep_false _ i) h fun t' val0 hfr hR => ?_
  have hfr0 : Fr l.toArray val0 { tmps := t, defers := d } (fun j => decide (j < 0) || es.contains j) { tmps := t', defers := d } := fr_congr hfr (fun j _ => by rw [hgd]; simp) (fun _ _ => rfl)
  obtain ⟨val, hv, hsteps, t'', hfx, hR'⟩ := seqM_vals ok hS (l.take k) 0 val0 t' (fun j o hj => by
   rw [List.getElem?_take] at hj
   split at hj
   ·simpa using hj
   ·cases hj) hfr0 hR
  have hlk : 0 + (l.take k).length = k := by rw [List.length_take]; omega
  rw [hlk] at hsteps hfx
  refine any_mix ok (S := S) (μ := μ) (k := k) (es := es) hes hμ (by omega) ht (val := val) (a0 := { tmps := t, defers := d }) (fun i o hi he ho => hsteps i o (Nat.zero_le _) hi he ho) (fun y hy w' hS' => ?_) _ _ _ _ hfold.1 ?_ ?_ ?_ ?_ ?_ ?_
  ·rw [fr_eq hy hfx fun _ _ => rfl]
   exact hR' w' hS'
  ·rw [show (fun i => (es.foldl (fun L e => L.setIfInBounds e true) (Array.replicate l.toArray.size false)).getD i false) = fun j => es.contains j from funext hgd]
   omega
  ·intro i o hi hl e he hb
   rw [hgd] at hl ⊢
   exact esOk_spec hes hi hl e he hb
  ·intro i hi hl
   rw [hgd] at hl
   exact .inr hl
  ·intro i hi he
   rw [hgd]; exact he
  ·exact fr_congr hfr (fun _ _ => rfl) (fun j hj => hv j (.inr (by rw [hgd] at hj; exact hj)))
  ·rw [hgd, hμ]; exact hS
 rw [← hf] at main
 exact main
theorem rest_drop {es : List Nat} : ∀ (n m : Nat), m + n = ops.size → (∀ e ∈ es, e < m) → rest ops es n m = ops.toList.drop m
 | 0, m, h, _ => by
  rw [List.drop_eq_nil_of_le (by simp; omega)]
  rfl
 | n + 1, m, h, he => by
  have ho : ops[m]? = some ops[m] := Array.getElem?_eq_getElem (by omega)
  have hc : es.contains m = false := by
   cases hc : es.contains m with
   | false => rfl
   | true => have := he m (by simpa using hc); omega
  simp only [rest, ho, hc, Bool.false_eq_true, if_false]
  rw [rest_drop n (m + 1) (by omega) (fun e h => Nat.lt_succ_of_lt (he e h)), drop_cons ho]
theorem region_mix' {id : Nat} {l : List Oper} {t : Array Value} {d : List Deferred} {w : World} (S : Bool → World → Prop) (μ k : Nat) (es : List Nat) (hm : P.follows .mixedOrders = true) (hok : (mixOk l.toArray μ k es && es.all fun e => decide (e < k)) = true)
  (hQ0 : ∀ c (a : Act) (x : Tmp) v w, Q (.panic c) (a.put (some x) v) w → Q (.panic c) a w) (hS : S false w.drew)
  (h : SeqE P l.toArray d (fun t' => SeqM P l.toArray S μ es d (fun t'' => ∀ w', S (decide (μ < k)) w' → wpList P l.toArray Q (l.drop k) { tmps := t'', defers := d } w') 0 (l.take k) t') es t) :
  (Code.region id l.toArray true).wp P Q { tmps := t, defers := d } w := by
 simp only [Bool.and_eq_true, List.all_eq_true, decide_eq_true_eq] at hok
 have hk : k ≤ l.length := by
  have := hok.1
  simp only [mixOk, Bool.and_eq_true, decide_eq_true_eq] at this
  have := this.1.1.1.2
  simpa using this
 refine region_mix S μ k es hm hok.1 hQ0 hS ?_
 rw [rest_drop (ops := l.toArray) (l.length - k) k (by simp; omega) hok.2]
 exact h
end Go.Mix
namespace Go.Proofs.Ytbddfnmhhmkfkaa.Pr
open Go.RowKit Go.Proofs.YtbddfnmhhmkfkaaW.PrintWords Go.Proofs.YtbddfnmhhmkfkaaW.PrintLast Go.Proofs.YtbddfnmhhmkfkaaW.PrintMore
attribute [local go_sem] max2_int min2_int max_two min_two max_three min_three max_four min_four
set_option linter.unusedVariables false
set_option linter.unusedSimpArgs false
def best_flow_hyphen.f (l0_0 : List (S43)) (a0_1 : Int) (l0_2 : List (S85)) (a1 : Int) : Option (Bool) := if a1 ≥ 0 then (if a1 < (l0_0.length : Int) then (if 0 ≤ a1 then (some (((rd_T43 l0_0 a1).f0) == 3)) else (none)) else (some false)) else (some false)
set_option maxHeartbeats 8000000 in
set_option maxRecDepth 100000 in
theorem best_flow_hyphen.calls (A0_0 : Option Addr) (c0_0 : Nat) (l0_0 : List (S43)) (a0_1 : Int) (A0_2 : Option Addr) (c0_2 : Nat) (l0_2 : List (S85)) (a1 : Int) (r : Bool) (w : World) (hr0_0 : Kd.C k43 w A0_0 l0_0.length l0_0) (hc0_0 : l0_0.length ≤ c0_0) (hr0_2 : Kd.C k85 w A0_2 l0_2.length l0_2) (hc0_2 : l0_2.length ≤ c0_2) (h : best_flow_hyphen.f l0_0 a0_1 l0_2 a1 = some r) :
  Calls Try.prog 75 #[.agg #[.slice A0_0 l0_0.length c0_0, .int .i64 a0_1, .slice A0_2 l0_2.length c0_2], .int .i64 a1] w fun e w' => e = .returned (.bool r) ∧ Below w.heap.size w w' := by
 have hu67 := Try.underlying67
 have HR0_0 := Aside0.mk hr0_0
 have HC0_0 := Aside0.mk hc0_0
 clear hr0_0 hc0_0
 have HR0_2 := Aside0.mk hr0_2
 have HC0_2 := Aside0.mk hc0_2
 clear hr0_2 hc0_2
 have HB := Aside0.mk (Below.refl w.heap.size w)
 have H : (if a1 ≥ 0 then (if a1 < (l0_0.length : Int) then (if 0 ≤ a1 then (some (((rd_T43 l0_0 a1).f0) == 3)) else (none)) else (some false)) else (some false)) = some r := h
 clear h
 by_cases c3 : a1 ≥ 0
 ·rw [if_pos c3] at H
  have c3b0 : decide (0 ≤ a1) = true := decide_eq_true c3
  clear c3
  by_cases c4 : a1 < (l0_0.length : Int)
  ·rw [if_pos c4] at H
   have c4b0 : decide (a1 < (l0_0.length : Int)) = true := decide_eq_true c4
   clear c4
   by_cases c5 : 0 ≤ a1
   ·rw [if_pos c5] at H
    have c5b0 : decide (0 ≤ a1) = true := decide_eq_true c5
    clear c5
    obtain rfl := Option.some.inj H
    go_enter Try.func75, Try.ntmps75
    go_wp2_with (first | ((with_reducible refine gate_dst (N := 2) rfl ?_); (try (refine gate_guard (by rfl) ?_; dsimp only)); refine box_event ?hg (N := 2) ?hd (cs := #[.slice A0_0 l0_0.length c0_0, .int .i64 a0_1, .slice A0_2 l0_2.length c0_2]) (t := 67) ?hr ?_; (case hd => rfl); (case hg => rfl); (case hr => first | (go_simp; done) | (go_simp; rfl)); intro gb105 hg w6 hbox hb; have n0_ := Aside0.mk (below_step (by repeat (first | (with_reducible first | exact HB.out | apply below_alloc | apply pw_below_drewN | apply below_drew1) | exact HB.out)) hb); have n1_ := Aside0.mk (hbox); have n2_ := Aside0.mk ((by rw [hg]; exact (below_size (by repeat (first | (with_reducible first | exact HB.out | apply below_alloc | apply pw_below_drewN | apply below_drew1) | exact HB.out))) : w.heap.size ≤ gb105)); have n3_ := Aside0.mk ((by rw [hg]; exact (below_size (by repeat (first | (with_reducible first | exact HB.out | apply below_alloc | apply pw_below_drewN | apply below_drew1) | exact HB.out))) : w.heap.size ≤ gb105)); clear HB; have HB := n0_; have BK105 := n1_; have GW105 := n2_; have GE105 := n3_; clear n0_ n1_ n2_ n3_; clear hb hbox hg; have hcz7_0 : w6.cell? ⟨gb105, 0, none⟩ = some (.slice A0_0 l0_0.length c0_0) := (blk_cell BK105.out 0).trans rfl; have hcz7_1 : w6.cell? ⟨gb105, 1, none⟩ = some (.int .i64 a0_1) := (blk_cell BK105.out 1).trans rfl; have hcz7_2 : w6.cell? ⟨gb105, 2, none⟩ = some (.slice A0_2 l0_2.length c0_2) := (blk_cell BK105.out 2).trans rfl; have hfz7_0 := blk_frozen BK105.out 0; have hfz7_1 := blk_frozen BK105.out 1; have hfz7_2 := blk_frozen BK105.out 2; have p106 : 0 ≤ (a1 : Int) := of_decide_eq_true (by first | (with_reducible assumption) | assumption); have q106 : a1 < (l0_0.length : Int) := of_decide_eq_true (by first | (with_reducible assumption) | assumption); obtain ⟨ad106, e106, hx106_0, hx106_1, hx106_2, hx106_3, hx106_4⟩ := at_T43 HR0_0.out a1 p106 q106; cases e106; replace hx106_0 := (HB.out.cell (World.block_lt_of_cell? w _ hx106_0)).trans hx106_0; replace hx106_1 := (HB.out.cell (World.block_lt_of_cell? w _ hx106_1)).trans hx106_1; replace hx106_2 := (HB.out.cell (World.block_lt_of_cell? w _ hx106_2)).trans hx106_2; replace hx106_3 := (HB.out.cell (World.block_lt_of_cell? w _ hx106_3)).trans hx106_3; replace hx106_4 := (HB.out.cell (World.block_lt_of_cell? w _ hx106_4)).trans hx106_4; replace p106 := eq_true p106; replace q106 := eq_true q106))
    go_ret
    exact ⟨by first | rfl | (simp [errW_none, errW_some] <;> rfl) | (simp [*, errW_none, errW_some] <;> rfl), by repeat (first | (with_reducible first | exact HB.out | apply below_alloc | apply pw_below_drewN | apply below_drew1 | refine below_set ?_ GE105.out) | exact HB.out)⟩
   ·rw [if_neg c5] at H
    exact absurd H (by simp)
  ·rw [if_neg c4] at H
   have c4b0 : decide (a1 < (l0_0.length : Int)) = false := decide_eq_false c4
   clear c4
   obtain rfl := Option.some.inj H
   go_enter Try.func75, Try.ntmps75
   go_wp2_with (first | ((with_reducible refine gate_dst (N := 2) rfl ?_); (try (refine gate_guard (by rfl) ?_; dsimp only)); refine box_event ?hg (N := 2) ?hd (cs := #[.slice A0_0 l0_0.length c0_0, .int .i64 a0_1, .slice A0_2 l0_2.length c0_2]) (t := 67) ?hr ?_; (case hd => rfl); (case hg => rfl); (case hr => first | (go_simp; done) | (go_simp; rfl)); intro gb105 hg w8 hbox hb; have n0_ := Aside0.mk (below_step (by repeat (first | (with_reducible first | exact HB.out | apply below_alloc | apply pw_below_drewN | apply below_drew1) | exact HB.out)) hb); have n1_ := Aside0.mk (hbox); have n2_ := Aside0.mk ((by rw [hg]; exact (below_size (by repeat (first | (with_reducible first | exact HB.out | apply below_alloc | apply pw_below_drewN | apply below_drew1) | exact HB.out))) : w.heap.size ≤ gb105)); have n3_ := Aside0.mk ((by rw [hg]; exact (below_size (by repeat (first | (with_reducible first | exact HB.out | apply below_alloc | apply pw_below_drewN | apply below_drew1) | exact HB.out))) : w.heap.size ≤ gb105)); clear HB; have HB := n0_; have BK105 := n1_; have GW105 := n2_; have GE105 := n3_; clear n0_ n1_ n2_ n3_; clear hb hbox hg; have hcz9_0 : w8.cell? ⟨gb105, 0, none⟩ = some (.slice A0_0 l0_0.length c0_0) := (blk_cell BK105.out 0).trans rfl; have hcz9_1 : w8.cell? ⟨gb105, 1, none⟩ = some (.int .i64 a0_1) := (blk_cell BK105.out 1).trans rfl; have hcz9_2 : w8.cell? ⟨gb105, 2, none⟩ = some (.slice A0_2 l0_2.length c0_2) := (blk_cell BK105.out 2).trans rfl; have hfz9_0 := blk_frozen BK105.out 0; have hfz9_1 := blk_frozen BK105.out 1; have hfz9_2 := blk_frozen BK105.out 2))
   go_ret
   exact ⟨by first | rfl | (simp [errW_none, errW_some] <;> rfl) | (simp [*, errW_none, errW_some] <;> rfl), by repeat (first | (with_reducible first | exact HB.out | apply below_alloc | apply pw_below_drewN | apply below_drew1 | refine below_set ?_ GE105.out) | exact HB.out)⟩
 ·rw [if_neg c3] at H
  have c3b0 : decide (0 ≤ a1) = false := decide_eq_false c3
  clear c3
  obtain rfl := Option.some.inj H
  go_enter Try.func75, Try.ntmps75
  go_wp2_with (first | ((with_reducible refine gate_dst (N := 2) rfl ?_); (try (refine gate_guard (by rfl) ?_; dsimp only)); refine box_event ?hg (N := 2) ?hd (cs := #[.slice A0_0 l0_0.length c0_0, .int .i64 a0_1, .slice A0_2 l0_2.length c0_2]) (t := 67) ?hr ?_; (case hd => rfl); (case hg => rfl); (case hr => first | (go_simp; done) | (go_simp; rfl)); intro gb105 hg w10 hbox hb; have n0_ := Aside0.mk (below_step (by repeat (first | (with_reducible first | exact HB.out | apply below_alloc | apply pw_below_drewN | apply below_drew1) | exact HB.out)) hb); have n1_ := Aside0.mk (hbox); have n2_ := Aside0.mk ((by rw [hg]; exact (below_size (by repeat (first | (with_reducible first | exact HB.out | apply below_alloc | apply pw_below_drewN | apply below_drew1) | exact HB.out))) : w.heap.size ≤ gb105)); have n3_ := Aside0.mk ((by rw [hg]; exact (below_size (by repeat (first | (with_reducible first | exact HB.out | apply below_alloc | apply pw_below_drewN | apply below_drew1) | exact HB.out))) : w.heap.size ≤ gb105)); clear HB; have HB := n0_; have BK105 := n1_; have GW105 := n2_; have GE105 := n3_; clear n0_ n1_ n2_ n3_; clear hb hbox hg))
  go_ret
  exact ⟨by first | rfl | (simp [errW_none, errW_some] <;> rfl) | (simp [*, errW_none, errW_some] <;> rfl), by repeat (first | (with_reducible first | exact HB.out | apply below_alloc | apply pw_below_drewN | apply below_drew1 | refine below_set ?_ GE105.out) | exact HB.out)⟩
end Go.Proofs.Ytbddfnmhhmkfkaa.Pr
namespace Go.Proofs.Ytbddfnmhhmkfkaa.Pr
set_option linter.unusedVariables false
set_option linter.unusedSimpArgs false
open Go.RowKit Go.Proofs.YtbddfnmhhmkfkaaW.PrintWords
attribute [local go_sem] Oper.semAt_some
def farP (n : Int) : Bool := decide (n < 0) || decide (2000 < n)
def oddP (x : S43) : Bool := decide (x.f0 < 1) || decide (4 < x.f0) || farP x.f1 || farP x.f2 || farP x.f3
def item (x : S43) : Value := .agg #[.int .i64 x.f0, .int .i64 x.f1, .int .i64 x.f2, .int .i64 x.f3, .int .i64 x.f4]
theorem far_calls (n : Int) (w : World) : Calls Try.prog 50 #[.int .i64 n] w fun e w' => e = .returned (.bool (farP n)) ∧ w' = w := by
 unfold farP
 go_enter Try.func50, Try.ntmps50
 go_wp2
 all_goals (go_ret; simp [*])
set_option maxHeartbeats 4000000 in
theorem odd_calls (x : S43) (B : Nat) (W : World) (hB : B < W.heap.size) (hc : W.cell? ⟨B, 0, none⟩ = some (.func (.func 50) #[] #[])) :
  Calls Try.prog 51 #[item x, .pointer (some ⟨B, 0, none⟩)] W fun e w' => e = .returned (.bool (oddP x)) ∧ Below W.heap.size W w' := by
 obtain ⟨f0, f1, f2, f3, f4⟩ := x
 have hb0 : Below W.heap.size W (W.alloc (.cells #[.int .i64 f0, .int .i64 f1, .int .i64 f2, .int .i64 f3, .int .i64 f4] 43)) := (Below.refl _ W).alloc (Nat.le_refl _) _
 have hc' : (W.alloc (.cells #[.int .i64 f0, .int .i64 f1, .int .i64 f2, .int .i64 f3, .int .i64 f4] 43)).cell? ⟨B, 0, none⟩ = some (.func (.func 50) #[] #[]) := (hb0.cell (p := ⟨B, 0, none⟩) hB).trans hc
 unfold item oddP
 dsimp only
 by_cases h1 : f0 < 1
 ·go_enter Try.func51, Try.ntmps51
  go_wp2
  go_ret
  exact ⟨by simp [h1], hb0⟩
 ·by_cases h2 : 4 < f0
  ·go_enter Try.func51, Try.ntmps51
   go_wp2
   go_ret
   exact ⟨by simp [h1, h2], hb0⟩
  ·have e1 := fun w => far_calls f1 w
   have e2 := fun w => far_calls f2 w
   have e3 := fun w => far_calls f3 w
   generalize farP f1 = b1 at *
   generalize farP f2 = b2 at *
   generalize farP f3 = b3 at *
   have E1 := Lib.hid e1
   have E2 := Lib.hid e2
   have E3 := Lib.hid e3
   clear e1 e2 e3
   have g1 : decide (f0 < 1) = false := decide_eq_false h1
   have g2 : decide (4 < f0) = false := decide_eq_false h2
   rw [g1, g2]
   have HG := Lib.hid (And.intro g1 g2)
   clear g1 g2
   have g3 : 1 ≤ f0 := by omega
   have g4 : f0 ≤ 4 := by omega
   clear h1 h2
   go_enter Try.func51, Try.ntmps51
   go_wp2_with (go_at_call 50; (first | (with_reducible refine (E1.out _).mono ?_) | (with_reducible refine (E2.out _).mono ?_) | (with_reducible refine (E3.out _).mono ?_)); rintro e w1 ⟨rfl, rfl⟩)
   all_goals
    go_ret
    have e1 := HG.out.1
    have e2 := HG.out.2
    exact ⟨by simp [*], hb0⟩
def idxO : List S43 → Int → Int
 | [], _ => -1
 | x :: xs, i => if oddP x then i else idxO xs (i + 1)
set_option maxHeartbeats 2000000 in
theorem indexItem_calls (B : Nat) (A : Option Addr) (c : Nat) (xs : List S43) (w : World) (hx : xs.length ≤ 140737488351232) (hA : Kd.C k43 w A xs.length xs) (hB : B < w.heap.size) (hc : w.cell? ⟨B, 0, none⟩ = some (.func (.func 50) #[] #[])) :
  Calls Try.prog 76 #[.slice A xs.length c, .func (.func 51) #[] #[.pointer (some ⟨B, 0, none⟩)]] w fun e w' => e = .returned (.int .i64 (idxO xs 0)) ∧ Below w.heap.size w w' := by
 have hcW : ∀ W', Below w.heap.size w W' → W'.cell? ⟨B, 0, none⟩ = some (.func (.func 50) #[] #[]) := fun W' hb => (hb.cell (p := ⟨B, 0, none⟩) hB).trans hc
 obtain ⟨n, hn⟩ : ∃ n, xs.length = n := ⟨_, rfl⟩
 have HA := Lib.hid hA
 have HC := Lib.hid hcW
 have hn1 : n ≤ 140737488351232 := by omega
 rw [hn]
 have HN := Lib.hid hn
 clear hn hA hcW hc hx
 go_enter Try.func76, Try.ntmps76
 go_wp2
 go_loopw [8] (fun v wr => ∃ (k : Nat) (rest : List S43), xs.drop k = rest ∧ Hid (idxO xs 0 = idxO rest k) ∧ v = .int .i64 k ∧ k ≤ n ∧ Below w.heap.size w wr) (fun v _ => n - (intOf v).toNat)
 case atStart => exact ⟨0, xs, rfl, Lib.hid rfl, rfl, by omega, Below.refl _ _⟩
 case round =>
  obtain ⟨k, rest, hr, H, rfl, hk, hB2⟩ := hrel
  by_cases hlt : k < n
  ·have hl2 : (k : Int) < (n : Int) := by omega
   obtain ⟨x, rest, rfl⟩ : ∃ x r, rest = x :: r := by
    cases rest with
    | nil =>
     have := congrArg List.length hr
     simp at this
     have := HN.out
     omega
    | cons x r => exact ⟨x, r, rfl⟩
   have hxk : xs[k]? = some x := by
    have := congrArg (fun l => l[0]?) hr
    simpa using this
   have hr' : xs.drop (k + 1) = rest := by
    have := congrArg List.tail hr
    simpa using this
   have HR := Lib.hid hr'
   obtain ⟨ad, e1, q0, q1, q2, q3, q4⟩ := at_T43 (Kd.C_below HA.out hB2) k (by omega) (by have := HN.out; omega)
   cases e1
   have hxx : rd_T43 xs k = x := by
    unfold rd_T43
    rw [Int.toNat_natCast, List.getD_eq_getElem?_getD, hxk]
    rfl
   rw [hxx] at q0 q1 q2 q3 q4
   simp only [Int.toNat_natCast] at q0 q1 q2 q3 q4
   have hcall := odd_calls x B wr (by have := hB2.size; omega) (HC.out wr hB2)
   have hidx : idxO xs 0 = if oddP x then (k : Int) else idxO rest ((k + 1 : Nat) : Int) := by rw [H.out]; rfl
   have HCL := Lib.hid hcall
   have HI := Lib.hid hidx
   clear hr hr' hxk hcall hidx hxx H
   unfold item at HCL
   generalize oddP x = bb at *
   obtain ⟨f0, f1, f2, f3, f4⟩ := x
   go_wp2_with fail
   refine HCL.out.mono ?_
   rintro e w' ⟨rfl, hb'⟩
   clear q0 q1 q2 q3 q4 HCL
   cases bb
   ·go_wp2
    go_roundw
    case rel => exact ⟨k + 1, rest, HR.out, Lib.hid HI.out, by go_num, by omega, hB2.trans (hb'.mono hB2.size)⟩
    case measure => simp [intOf]; omega
   ·go_wp2
    go_ret
    exact ⟨by rw [HI.out]; rfl, hB2.trans (hb'.mono hB2.size)⟩
  ·have hk2 : ¬ (k : Int) < (n : Int) := by omega
   have hnil : rest = [] := by
    rw [← hr]; apply List.drop_eq_nil_of_le; have := HN.out; omega
   subst hnil
   have hi : idxO xs 0 = -1 := H.out
   have HI := Lib.hid hi
   clear hi hr H
   go_wp2
   go_ret
   exact ⟨by rw [HI.out]; rfl, hB2⟩
theorem idxO_lt (xs : List S43) : ∀ i : Int, 0 ≤ i → (decide (0 ≤ idxO xs i) = xs.any oddP) := by
 induction xs with
 | nil => intro i h; rfl
 | cons x xs ih =>
  intro i h
  by_cases hx : oddP x = true
  ·have e : idxO (x :: xs) i = i := if_pos hx
   rw [e, List.any_cons, hx]
   simp [h]
  ·have e : idxO (x :: xs) i = idxO xs (i + 1) := if_neg hx
   rw [e, ih (i + 1) (by omega), List.any_cons]
   simp only [Bool.not_eq_true] at hx
   rw [hx, Bool.false_or]
set_option maxHeartbeats 1000000 in
theorem hasItem_calls (B : Nat) (A : Option Addr) (c : Nat) (xs : List S43) (w : World) (hx : xs.length ≤ 140737488351232) (hA : Kd.C k43 w A xs.length xs) (hB : B < w.heap.size) (hc : w.cell? ⟨B, 0, none⟩ = some (.func (.func 50) #[] #[])) :
  Calls Try.prog 52 #[.slice A xs.length c, .func (.func 51) #[] #[.pointer (some ⟨B, 0, none⟩)]] w fun e w' => e = .returned (.bool (xs.any oddP)) ∧ Below w.heap.size w w' := by
 have h1 := indexItem_calls B A c xs w hx hA hB hc
 have h2 := idxO_lt xs 0 (Int.le_refl _)
 rw [← h2]
 have H1 := Lib.hid h1
 clear h1 h2 hA hc
 generalize idxO xs 0 = i at *
 go_enter Try.func52, Try.ntmps52
 go_wp2_with fail
 refine H1.out.mono ?_
 rintro e w' ⟨rfl, hb'⟩
 go_wp2
 go_ret
 exact ⟨rfl, hb'⟩
def checkP (l : List S43) (w : Int) : Int := if w < 1 ∨ 1000000 < w ∨ 16384 < l.length ∨ l.any oddP = true then 1 else 0
def best_Check.f (l0 : List S43) (a1 : Int) : Option Int := some (checkP l0 a1)
theorem run_store_func {P : Program} {w : World} {a : Addr} {m : Mode} (f : Fn) (b c : Array Value) : (store a (.func f b c) m).run P w = stored P w a (.func f b c) m := run_store P w a _ m rfl
attribute [local go_sem] run_store_func
set_option maxHeartbeats 2000000 in
theorem best_Check.calls (A0 : Option Addr) (c0 : Nat) (l0 : List S43) (a1 : Int) (r : Int) (w : World) (hr0 : Kd.C k43 w A0 l0.length l0) (hc0 : l0.length ≤ c0) (h : best_Check.f l0 a1 = some r) :
  Calls Try.prog 16 #[.slice A0 l0.length c0, .int .i64 a1] w fun e w' => e = .returned (.int .i64 r) ∧ Below w.heap.size w w' := by
 obtain rfl := Option.some.inj h
 clear h
 have hb0 : Below w.heap.size w (w.alloc (.cells #[.func (.func 50) #[] #[]] 81)) := (Below.refl _ w).alloc (Nat.le_refl _) _
 unfold checkP
 by_cases h1 : a1 < 1
 ·rw [if_pos (.inl h1)]
  go_enter Try.func16, Try.ntmps16
  go_wp2
  go_ret
  exact ⟨rfl, hb0⟩
 ·by_cases h2 : 1000000 < a1
  ·rw [if_pos (.inr (.inl h2))]
   go_enter Try.func16, Try.ntmps16
   go_wp2
   go_ret
   exact ⟨rfl, hb0⟩
  ·by_cases h3 : 16384 < l0.length
   ·rw [if_pos (.inr (.inr (.inl h3)))]
    have h3' : (16384 : Int) < (l0.length : Int) := by omega
    go_enter Try.func16, Try.ntmps16
    go_wp2
    go_ret
    exact ⟨rfl, hb0⟩
   ·have h3' : (l0.length : Int) ≤ 16384 := by omega
    have hcall := hasItem_calls w.heap.size A0 c0 l0 (w.alloc (.cells #[.func (.func 50) #[] #[]] 81)) (by omega) (Kd.C_alloc hr0 _) (by simp) (by rw [blk_cell (blk_new w _) 0]; rfl)
    have e0 : (if a1 < 1 ∨ 1000000 < a1 ∨ 16384 < l0.length ∨ l0.any oddP = true then (1 : Int) else 0) = if l0.any oddP = true then 1 else 0 := by
     by_cases h4 : l0.any oddP = true
     ·rw [if_pos h4, if_pos (.inr (.inr (.inr h4)))]
     ·rw [if_neg h4, if_neg (by rintro (h | h | h | h) <;> first | exact h4 h | omega)]
    rw [e0]
    have HC := Lib.hid hcall
    have g1 : 1 ≤ a1 := by omega
    have g2 : a1 ≤ 1000000 := by omega
    clear hcall e0 h1 h2 h3 hr0 hc0
    generalize l0.any oddP = b at *
    go_enter Try.func16, Try.ntmps16
    go_wp2_with fail
    refine HC.out.mono ?_
    rintro e w' ⟨rfl, hb'⟩
    cases b
    ·go_wp2
     go_ret
     exact ⟨rfl, below_step hb0 hb'⟩
    ·go_wp2
     go_ret
     exact ⟨rfl, below_step hb0 hb'⟩
end Go.Proofs.Ytbddfnmhhmkfkaa.Pr
namespace Go.Proofs.Ytbddfnmhhmkfkaa.Pr
open Go.RowKit Go.Proofs.YtbddfnmhhmkfkaaW.PrintWords Go.Proofs.YtbddfnmhhmkfkaaW.PrintLast Go.Proofs.YtbddfnmhhmkfkaaW.PrintMore
attribute [local go_sem] max2_int min2_int max_two min_two max_three min_three max_four min_four
set_option linter.unusedVariables false
set_option linter.unusedSimpArgs false
def lines_wide.f (a0_0 : Int) (a0_1 : Int) (a0_2 : Int) (a0_3 : Int) (a0_4 : Int) : Option (Int) := if a0_0 = 3 then (some 0) else (some a0_1)
set_option maxHeartbeats 8000000 in
set_option maxRecDepth 100000 in
theorem lines_wide.calls (a0_0 : Int) (a0_1 : Int) (a0_2 : Int) (a0_3 : Int) (a0_4 : Int) (r : Int) (w : World) (h : lines_wide.f a0_0 a0_1 a0_2 a0_3 a0_4 = some r) :
  Calls Try.prog 81 #[.agg #[.int .i64 a0_0, .int .i64 a0_1, .int .i64 a0_2, .int .i64 a0_3, .int .i64 a0_4]] w fun e w' => e = .returned (.int .i64 r) ∧ Below w.heap.size w w' := by
 have hu43 := Try.underlying43
 have HB := Aside0.mk (Below.refl w.heap.size w)
 have H : (if a0_0 = 3 then (some 0) else (some a0_1)) = some r := h
 clear h
 by_cases c2 : a0_0 = 3
 ·rw [if_pos c2] at H
  have c2b0 : (a0_0 == 3) = true := beq_iff_eq.mpr c2
  have c2b1 : (a0_0 != 3) = false := bne_eq_false_iff_eq.mpr c2
  clear c2
  obtain rfl := Option.some.inj H
  go_enter Try.func81, Try.ntmps81
  go_wp2_with (first | ((with_reducible refine gate_dst (N := 1) rfl ?_); refine box_event ?hg (N := 1) ?hd (cs := #[.int .i64 a0_0, .int .i64 a0_1, .int .i64 a0_2, .int .i64 a0_3, .int .i64 a0_4]) (t := 43) ?hr ?_; (case hd => rfl); (case hg => rfl); (case hr => first | (go_simp; done) | (go_simp; rfl)); intro gb389 hg w3 hbox hb; have n0_ := Aside0.mk (below_step (by repeat (first | (with_reducible first | exact HB.out | apply below_alloc | apply pw_below_drewN | apply below_drew1) | exact HB.out)) hb); have n1_ := Aside0.mk (hbox); have n2_ := Aside0.mk ((by rw [hg]; exact (below_size (by repeat (first | (with_reducible first | exact HB.out | apply below_alloc | apply pw_below_drewN | apply below_drew1) | exact HB.out))) : w.heap.size ≤ gb389)); have n3_ := Aside0.mk ((by rw [hg]; exact (below_size (by repeat (first | (with_reducible first | exact HB.out | apply below_alloc | apply pw_below_drewN | apply below_drew1) | exact HB.out))) : w.heap.size ≤ gb389)); clear HB; have HB := n0_; have BK389 := n1_; have GW389 := n2_; have GE389 := n3_; clear n0_ n1_ n2_ n3_; clear hb hbox hg; have hcz4_0 : w3.cell? ⟨gb389, 0, none⟩ = some (.int .i64 a0_0) := (blk_cell BK389.out 0).trans rfl; have hcz4_1 : w3.cell? ⟨gb389, 1, none⟩ = some (.int .i64 a0_1) := (blk_cell BK389.out 1).trans rfl; have hcz4_2 : w3.cell? ⟨gb389, 2, none⟩ = some (.int .i64 a0_2) := (blk_cell BK389.out 2).trans rfl; have hcz4_3 : w3.cell? ⟨gb389, 3, none⟩ = some (.int .i64 a0_3) := (blk_cell BK389.out 3).trans rfl; have hcz4_4 : w3.cell? ⟨gb389, 4, none⟩ = some (.int .i64 a0_4) := (blk_cell BK389.out 4).trans rfl; have hfz4_0 := blk_frozen BK389.out 0; have hfz4_1 := blk_frozen BK389.out 1; have hfz4_2 := blk_frozen BK389.out 2; have hfz4_3 := blk_frozen BK389.out 3; have hfz4_4 := blk_frozen BK389.out 4))
  go_ret
  exact ⟨by first | rfl | (simp [errW_none, errW_some] <;> rfl) | (simp [*, errW_none, errW_some] <;> rfl), by repeat (first | (with_reducible first | exact HB.out | apply below_alloc | apply pw_below_drewN | apply below_drew1 | refine below_set ?_ GE389.out) | exact HB.out)⟩
 ·rw [if_neg c2] at H
  have c2b0 : (a0_0 == 3) = false := beq_eq_false_iff_ne.mpr c2
  have c2b1 : (a0_0 != 3) = true := bne_iff_ne.mpr c2
  obtain rfl := Option.some.inj H
  go_enter Try.func81, Try.ntmps81
  go_wp2_with (first | ((with_reducible refine gate_dst (N := 1) rfl ?_); refine box_event ?hg (N := 1) ?hd (cs := #[.int .i64 a0_0, .int .i64 a0_1, .int .i64 a0_2, .int .i64 a0_3, .int .i64 a0_4]) (t := 43) ?hr ?_; (case hd => rfl); (case hg => rfl); (case hr => first | (go_simp; done) | (go_simp; rfl)); intro gb389 hg w5 hbox hb; have n0_ := Aside0.mk (below_step (by repeat (first | (with_reducible first | exact HB.out | apply below_alloc | apply pw_below_drewN | apply below_drew1) | exact HB.out)) hb); have n1_ := Aside0.mk (hbox); have n2_ := Aside0.mk ((by rw [hg]; exact (below_size (by repeat (first | (with_reducible first | exact HB.out | apply below_alloc | apply pw_below_drewN | apply below_drew1) | exact HB.out))) : w.heap.size ≤ gb389)); have n3_ := Aside0.mk ((by rw [hg]; exact (below_size (by repeat (first | (with_reducible first | exact HB.out | apply below_alloc | apply pw_below_drewN | apply below_drew1) | exact HB.out))) : w.heap.size ≤ gb389)); clear HB; have HB := n0_; have BK389 := n1_; have GW389 := n2_; have GE389 := n3_; clear n0_ n1_ n2_ n3_; clear hb hbox hg; have hcz6_0 : w5.cell? ⟨gb389, 0, none⟩ = some (.int .i64 a0_0) := (blk_cell BK389.out 0).trans rfl; have hcz6_1 : w5.cell? ⟨gb389, 1, none⟩ = some (.int .i64 a0_1) := (blk_cell BK389.out 1).trans rfl; have hcz6_2 : w5.cell? ⟨gb389, 2, none⟩ = some (.int .i64 a0_2) := (blk_cell BK389.out 2).trans rfl; have hcz6_3 : w5.cell? ⟨gb389, 3, none⟩ = some (.int .i64 a0_3) := (blk_cell BK389.out 3).trans rfl; have hcz6_4 : w5.cell? ⟨gb389, 4, none⟩ = some (.int .i64 a0_4) := (blk_cell BK389.out 4).trans rfl; have hfz6_0 := blk_frozen BK389.out 0; have hfz6_1 := blk_frozen BK389.out 1; have hfz6_2 := blk_frozen BK389.out 2; have hfz6_3 := blk_frozen BK389.out 3; have hfz6_4 := blk_frozen BK389.out 4))
  go_ret
  exact ⟨by first | rfl | (simp [errW_none, errW_some] <;> rfl) | (simp [*, errW_none, errW_some] <;> rfl), by repeat (first | (with_reducible first | exact HB.out | apply below_alloc | apply pw_below_drewN | apply below_drew1 | refine below_set ?_ GE389.out) | exact HB.out)⟩
def lines_grows.f (a0_0 : Int) (a0_1 : Int) (a0_2 : Int) (a0_3 : Int) (a0_4 : Int) : Option (Int) := if a0_0 = 2 then (some a0_2) else (some 0)
set_option maxHeartbeats 8000000 in
set_option maxRecDepth 100000 in
theorem lines_grows.calls (a0_0 : Int) (a0_1 : Int) (a0_2 : Int) (a0_3 : Int) (a0_4 : Int) (r : Int) (w : World) (h : lines_grows.f a0_0 a0_1 a0_2 a0_3 a0_4 = some r) :
  Calls Try.prog 82 #[.agg #[.int .i64 a0_0, .int .i64 a0_1, .int .i64 a0_2, .int .i64 a0_3, .int .i64 a0_4]] w fun e w' => e = .returned (.int .i64 r) ∧ Below w.heap.size w w' := by
 have hu43 := Try.underlying43
 have HB := Aside0.mk (Below.refl w.heap.size w)
 have H : (if a0_0 = 2 then (some a0_2) else (some 0)) = some r := h
 clear h
 by_cases c2 : a0_0 = 2
 ·rw [if_pos c2] at H
  have c2b0 : (a0_0 == 2) = true := beq_iff_eq.mpr c2
  have c2b1 : (a0_0 != 2) = false := bne_eq_false_iff_eq.mpr c2
  clear c2
  obtain rfl := Option.some.inj H
  go_enter Try.func82, Try.ntmps82
  go_wp2_with (first | ((with_reducible refine gate_dst (N := 1) rfl ?_); refine box_event ?hg (N := 1) ?hd (cs := #[.int .i64 a0_0, .int .i64 a0_1, .int .i64 a0_2, .int .i64 a0_3, .int .i64 a0_4]) (t := 43) ?hr ?_; (case hd => rfl); (case hg => rfl); (case hr => first | (go_simp; done) | (go_simp; rfl)); intro gb390 hg w3 hbox hb; have n0_ := Aside0.mk (below_step (by repeat (first | (with_reducible first | exact HB.out | apply below_alloc | apply pw_below_drewN | apply below_drew1) | exact HB.out)) hb); have n1_ := Aside0.mk (hbox); have n2_ := Aside0.mk ((by rw [hg]; exact (below_size (by repeat (first | (with_reducible first | exact HB.out | apply below_alloc | apply pw_below_drewN | apply below_drew1) | exact HB.out))) : w.heap.size ≤ gb390)); have n3_ := Aside0.mk ((by rw [hg]; exact (below_size (by repeat (first | (with_reducible first | exact HB.out | apply below_alloc | apply pw_below_drewN | apply below_drew1) | exact HB.out))) : w.heap.size ≤ gb390)); clear HB; have HB := n0_; have BK390 := n1_; have GW390 := n2_; have GE390 := n3_; clear n0_ n1_ n2_ n3_; clear hb hbox hg; have hcz4_0 : w3.cell? ⟨gb390, 0, none⟩ = some (.int .i64 a0_0) := (blk_cell BK390.out 0).trans rfl; have hcz4_1 : w3.cell? ⟨gb390, 1, none⟩ = some (.int .i64 a0_1) := (blk_cell BK390.out 1).trans rfl; have hcz4_2 : w3.cell? ⟨gb390, 2, none⟩ = some (.int .i64 a0_2) := (blk_cell BK390.out 2).trans rfl; have hcz4_3 : w3.cell? ⟨gb390, 3, none⟩ = some (.int .i64 a0_3) := (blk_cell BK390.out 3).trans rfl; have hcz4_4 : w3.cell? ⟨gb390, 4, none⟩ = some (.int .i64 a0_4) := (blk_cell BK390.out 4).trans rfl; have hfz4_0 := blk_frozen BK390.out 0; have hfz4_1 := blk_frozen BK390.out 1; have hfz4_2 := blk_frozen BK390.out 2; have hfz4_3 := blk_frozen BK390.out 3; have hfz4_4 := blk_frozen BK390.out 4))
  go_ret
  exact ⟨by first | rfl | (simp [errW_none, errW_some] <;> rfl) | (simp [*, errW_none, errW_some] <;> rfl), by repeat (first | (with_reducible first | exact HB.out | apply below_alloc | apply pw_below_drewN | apply below_drew1 | refine below_set ?_ GE390.out) | exact HB.out)⟩
 ·rw [if_neg c2] at H
  have c2b0 : (a0_0 == 2) = false := beq_eq_false_iff_ne.mpr c2
  have c2b1 : (a0_0 != 2) = true := bne_iff_ne.mpr c2
  obtain rfl := Option.some.inj H
  go_enter Try.func82, Try.ntmps82
  go_wp2_with (first | ((with_reducible refine gate_dst (N := 1) rfl ?_); refine box_event ?hg (N := 1) ?hd (cs := #[.int .i64 a0_0, .int .i64 a0_1, .int .i64 a0_2, .int .i64 a0_3, .int .i64 a0_4]) (t := 43) ?hr ?_; (case hd => rfl); (case hg => rfl); (case hr => first | (go_simp; done) | (go_simp; rfl)); intro gb390 hg w5 hbox hb; have n0_ := Aside0.mk (below_step (by repeat (first | (with_reducible first | exact HB.out | apply below_alloc | apply pw_below_drewN | apply below_drew1) | exact HB.out)) hb); have n1_ := Aside0.mk (hbox); have n2_ := Aside0.mk ((by rw [hg]; exact (below_size (by repeat (first | (with_reducible first | exact HB.out | apply below_alloc | apply pw_below_drewN | apply below_drew1) | exact HB.out))) : w.heap.size ≤ gb390)); have n3_ := Aside0.mk ((by rw [hg]; exact (below_size (by repeat (first | (with_reducible first | exact HB.out | apply below_alloc | apply pw_below_drewN | apply below_drew1) | exact HB.out))) : w.heap.size ≤ gb390)); clear HB; have HB := n0_; have BK390 := n1_; have GW390 := n2_; have GE390 := n3_; clear n0_ n1_ n2_ n3_; clear hb hbox hg; have hcz6_0 : w5.cell? ⟨gb390, 0, none⟩ = some (.int .i64 a0_0) := (blk_cell BK390.out 0).trans rfl; have hcz6_1 : w5.cell? ⟨gb390, 1, none⟩ = some (.int .i64 a0_1) := (blk_cell BK390.out 1).trans rfl; have hcz6_2 : w5.cell? ⟨gb390, 2, none⟩ = some (.int .i64 a0_2) := (blk_cell BK390.out 2).trans rfl; have hcz6_3 : w5.cell? ⟨gb390, 3, none⟩ = some (.int .i64 a0_3) := (blk_cell BK390.out 3).trans rfl; have hcz6_4 : w5.cell? ⟨gb390, 4, none⟩ = some (.int .i64 a0_4) := (blk_cell BK390.out 4).trans rfl; have hfz6_0 := blk_frozen BK390.out 0; have hfz6_1 := blk_frozen BK390.out 1; have hfz6_2 := blk_frozen BK390.out 2; have hfz6_3 := blk_frozen BK390.out 3; have hfz6_4 := blk_frozen BK390.out 4))
  go_ret
  exact ⟨by first | rfl | (simp [errW_none, errW_some] <;> rfl) | (simp [*, errW_none, errW_some] <;> rfl), by repeat (first | (with_reducible first | exact HB.out | apply below_alloc | apply pw_below_drewN | apply below_drew1 | refine below_set ?_ GE390.out) | exact HB.out)⟩
def lines_shrinks.f (a0_0 : Int) (a0_1 : Int) (a0_2 : Int) (a0_3 : Int) (a0_4 : Int) : Option (Int) := if a0_0 = 2 then (some a0_3) else (some 0)
set_option maxHeartbeats 8000000 in
set_option maxRecDepth 100000 in
theorem lines_shrinks.calls (a0_0 : Int) (a0_1 : Int) (a0_2 : Int) (a0_3 : Int) (a0_4 : Int) (r : Int) (w : World) (h : lines_shrinks.f a0_0 a0_1 a0_2 a0_3 a0_4 = some r) :
  Calls Try.prog 83 #[.agg #[.int .i64 a0_0, .int .i64 a0_1, .int .i64 a0_2, .int .i64 a0_3, .int .i64 a0_4]] w fun e w' => e = .returned (.int .i64 r) ∧ Below w.heap.size w w' := by
 have hu43 := Try.underlying43
 have HB := Aside0.mk (Below.refl w.heap.size w)
 have H : (if a0_0 = 2 then (some a0_3) else (some 0)) = some r := h
 clear h
 by_cases c2 : a0_0 = 2
 ·rw [if_pos c2] at H
  have c2b0 : (a0_0 == 2) = true := beq_iff_eq.mpr c2
  have c2b1 : (a0_0 != 2) = false := bne_eq_false_iff_eq.mpr c2
  clear c2
  obtain rfl := Option.some.inj H
  go_enter Try.func83, Try.ntmps83
  go_wp2_with (first | ((with_reducible refine gate_dst (N := 1) rfl ?_); refine box_event ?hg (N := 1) ?hd (cs := #[.int .i64 a0_0, .int .i64 a0_1, .int .i64 a0_2, .int .i64 a0_3, .int .i64 a0_4]) (t := 43) ?hr ?_; (case hd => rfl); (case hg => rfl); (case hr => first | (go_simp; done) | (go_simp; rfl)); intro gb391 hg w3 hbox hb; have n0_ := Aside0.mk (below_step (by repeat (first | (with_reducible first | exact HB.out | apply below_alloc | apply pw_below_drewN | apply below_drew1) | exact HB.out)) hb); have n1_ := Aside0.mk (hbox); have n2_ := Aside0.mk ((by rw [hg]; exact (below_size (by repeat (first | (with_reducible first | exact HB.out | apply below_alloc | apply pw_below_drewN | apply below_drew1) | exact HB.out))) : w.heap.size ≤ gb391)); have n3_ := Aside0.mk ((by rw [hg]; exact (below_size (by repeat (first | (with_reducible first | exact HB.out | apply below_alloc | apply pw_below_drewN | apply below_drew1) | exact HB.out))) : w.heap.size ≤ gb391)); clear HB; have HB := n0_; have BK391 := n1_; have GW391 := n2_; have GE391 := n3_; clear n0_ n1_ n2_ n3_; clear hb hbox hg; have hcz4_0 : w3.cell? ⟨gb391, 0, none⟩ = some (.int .i64 a0_0) := (blk_cell BK391.out 0).trans rfl; have hcz4_1 : w3.cell? ⟨gb391, 1, none⟩ = some (.int .i64 a0_1) := (blk_cell BK391.out 1).trans rfl; have hcz4_2 : w3.cell? ⟨gb391, 2, none⟩ = some (.int .i64 a0_2) := (blk_cell BK391.out 2).trans rfl; have hcz4_3 : w3.cell? ⟨gb391, 3, none⟩ = some (.int .i64 a0_3) := (blk_cell BK391.out 3).trans rfl; have hcz4_4 : w3.cell? ⟨gb391, 4, none⟩ = some (.int .i64 a0_4) := (blk_cell BK391.out 4).trans rfl; have hfz4_0 := blk_frozen BK391.out 0; have hfz4_1 := blk_frozen BK391.out 1; have hfz4_2 := blk_frozen BK391.out 2; have hfz4_3 := blk_frozen BK391.out 3; have hfz4_4 := blk_frozen BK391.out 4))
  go_ret
  exact ⟨by first | rfl | (simp [errW_none, errW_some] <;> rfl) | (simp [*, errW_none, errW_some] <;> rfl), by repeat (first | (with_reducible first | exact HB.out | apply below_alloc | apply pw_below_drewN | apply below_drew1 | refine below_set ?_ GE391.out) | exact HB.out)⟩
 ·rw [if_neg c2] at H
  have c2b0 : (a0_0 == 2) = false := beq_eq_false_iff_ne.mpr c2
  have c2b1 : (a0_0 != 2) = true := bne_iff_ne.mpr c2
  obtain rfl := Option.some.inj H
  go_enter Try.func83, Try.ntmps83
  go_wp2_with (first | ((with_reducible refine gate_dst (N := 1) rfl ?_); refine box_event ?hg (N := 1) ?hd (cs := #[.int .i64 a0_0, .int .i64 a0_1, .int .i64 a0_2, .int .i64 a0_3, .int .i64 a0_4]) (t := 43) ?hr ?_; (case hd => rfl); (case hg => rfl); (case hr => first | (go_simp; done) | (go_simp; rfl)); intro gb391 hg w5 hbox hb; have n0_ := Aside0.mk (below_step (by repeat (first | (with_reducible first | exact HB.out | apply below_alloc | apply pw_below_drewN | apply below_drew1) | exact HB.out)) hb); have n1_ := Aside0.mk (hbox); have n2_ := Aside0.mk ((by rw [hg]; exact (below_size (by repeat (first | (with_reducible first | exact HB.out | apply below_alloc | apply pw_below_drewN | apply below_drew1) | exact HB.out))) : w.heap.size ≤ gb391)); have n3_ := Aside0.mk ((by rw [hg]; exact (below_size (by repeat (first | (with_reducible first | exact HB.out | apply below_alloc | apply pw_below_drewN | apply below_drew1) | exact HB.out))) : w.heap.size ≤ gb391)); clear HB; have HB := n0_; have BK391 := n1_; have GW391 := n2_; have GE391 := n3_; clear n0_ n1_ n2_ n3_; clear hb hbox hg; have hcz6_0 : w5.cell? ⟨gb391, 0, none⟩ = some (.int .i64 a0_0) := (blk_cell BK391.out 0).trans rfl; have hcz6_1 : w5.cell? ⟨gb391, 1, none⟩ = some (.int .i64 a0_1) := (blk_cell BK391.out 1).trans rfl; have hcz6_2 : w5.cell? ⟨gb391, 2, none⟩ = some (.int .i64 a0_2) := (blk_cell BK391.out 2).trans rfl; have hcz6_3 : w5.cell? ⟨gb391, 3, none⟩ = some (.int .i64 a0_3) := (blk_cell BK391.out 3).trans rfl; have hcz6_4 : w5.cell? ⟨gb391, 4, none⟩ = some (.int .i64 a0_4) := (blk_cell BK391.out 4).trans rfl; have hfz6_0 := blk_frozen BK391.out 0; have hfz6_1 := blk_frozen BK391.out 1; have hfz6_2 := blk_frozen BK391.out 2; have hfz6_3 := blk_frozen BK391.out 3; have hfz6_4 := blk_frozen BK391.out 4))
  go_ret
  exact ⟨by first | rfl | (simp [errW_none, errW_some] <;> rfl) | (simp [*, errW_none, errW_some] <;> rfl), by repeat (first | (with_reducible first | exact HB.out | apply below_alloc | apply pw_below_drewN | apply below_drew1 | refine below_set ?_ GE391.out) | exact HB.out)⟩
def lines_shows.j0 : Nat → List (S101) → Bool → Int → Int → Int → Int → Int → Option (Int × Bool)
 | 0, _, _, _, _, _, _, _ => none
 | k + 1, x0, x19, x393000, x393001, x393002, x393003, x393004 => if x19 = true then (some (0, false)) else (if 0 ≤ x393004 then (if x393004 < (x0.length : Int) then (if x393000 = 4 then (if ((rd_T101 x0 x393004).f0) = 2 then (some (42, (((rd_T101 x0 x393004).f1) == 110))) else (some (42, false))) else (some ((rd_T101 x0 x393004).f1, (((rd_T101 x0 x393004).f0) == 1)))) else (none)) else (none))
def lines_shows.f (k : Nat) (l0 : List (S101)) (a1_0 : Int) (a1_1 : Int) (a1_2 : Int) (a1_3 : Int) (a1_4 : Int) : Option (Int × Bool) := if a1_0 = 3 then (some (45, true)) else (if a1_4 < 0 then (lines_shows.j0 k l0 true a1_0 a1_1 a1_2 a1_3 a1_4) else (lines_shows.j0 k l0 (decide (a1_4 ≥ (l0.length : Int))) a1_0 a1_1 a1_2 a1_3 a1_4))
theorem lines_shows.mono_l : ∀ k, (∀ y0 y1 y2 y3 y4 y5 y6, LeO (lines_shows.j0 k y0 y1 y2 y3 y4 y5 y6) (lines_shows.j0 (k + 1) y0 y1 y2 y3 y4 y5 y6))
 | 0 => fun _ _ _ _ _ _ _ r h => by simp [lines_shows.j0] at h
 | k + 1 => by
  have ih0 := lines_shows.mono_l k
  ·intro y0 y1 y2 y3 y4 y5 y6
   unfold lines_shows.j0
   repeat' first
   | (with_reducible exact ih0 _ _ _ _ _ _ _)
   | (with_reducible exact LeO.refl _)
   | (with_reducible exact LeO.none _)
   | (with_reducible refine LeO.ite ?_ ?_)
   | (with_reducible refine LeO.bind ?_ (fun _ => ?_))
   | exact ih0 _ _ _ _ _ _ _
   | exact LeO.none _
   | refine LeO.ite ?_ ?_
   | refine LeO.bind ?_ (fun _ => ?_)
theorem lines_shows.mono : ∀ a0 a1 a2 a3 a4 a5 k, LeO (lines_shows.f k a0 a1 a2 a3 a4 a5) (lines_shows.f (k + 1) a0 a1 a2 a3 a4 a5) := by
 intro a0 a1 a2 a3 a4 a5 k
 have ih0 := lines_shows.mono_l k
 unfold lines_shows.f
 repeat' first
   | (with_reducible exact ih0 _ _ _ _ _ _ _)
   | (with_reducible exact LeO.refl _)
   | (with_reducible exact LeO.none _)
   | (with_reducible refine LeO.ite ?_ ?_)
   | (with_reducible refine LeO.bind ?_ (fun _ => ?_))
   | exact ih0 _ _ _ _ _ _ _
   | exact LeO.none _
   | refine LeO.ite ?_ ?_
   | refine LeO.bind ?_ (fun _ => ?_)
set_option maxHeartbeats 8000000 in
set_option maxRecDepth 100000 in
theorem lines_shows.calls (k : Nat) (A0 : Option Addr) (c0 : Nat) (l0 : List (S101)) (a1_0 : Int) (a1_1 : Int) (a1_2 : Int) (a1_3 : Int) (a1_4 : Int) (r1 : Int) (r2 : Bool) (w : World) (hr0 : Kd.C k101 w A0 l0.length l0) (hc0 : l0.length ≤ c0) (h : lines_shows.f k l0 a1_0 a1_1 a1_2 a1_3 a1_4 = some (r1, r2)) :
  Calls Try.prog 62 #[.slice A0 l0.length c0, .agg #[.int .i64 a1_0, .int .i64 a1_1, .int .i64 a1_2, .int .i64 a1_3, .int .i64 a1_4]] w fun e w' => e = .returned (.tuple #[.int .u8 r1, .bool r2]) ∧ Below w.heap.size w w' := by
 have hu43 := Try.underlying43
 have hu101 := Try.underlying101
 have HR0 := Aside0.mk hr0
 have HC0 := Aside0.mk hc0
 clear hr0 hc0
 have HB := Aside0.mk (Below.refl w.heap.size w)
 have H : (if a1_0 = 3 then (some (45, true)) else (if a1_4 < 0 then (lines_shows.j0 k l0 true a1_0 a1_1 a1_2 a1_3 a1_4) else (lines_shows.j0 k l0 (decide (a1_4 ≥ (l0.length : Int))) a1_0 a1_1 a1_2 a1_3 a1_4))) = some (r1, r2) := h
 clear h
 by_cases c3 : a1_0 = 3
 ·rw [if_pos c3] at H
  have c3b0 : (a1_0 == 3) = true := beq_iff_eq.mpr c3
  have c3b1 : (a1_0 != 3) = false := bne_eq_false_iff_eq.mpr c3
  clear c3
  simp only [Option.some.injEq, Prod.mk.injEq] at H
  obtain ⟨rfl, rfl⟩ := H
  go_enter Try.func62, Try.ntmps62
  go_wp2_with (first | ((with_reducible refine gate_dst (N := 3) rfl ?_); (try (refine gate_guard (by rfl) ?_; dsimp only)); refine box_event ?hg (N := 3) ?hd (cs := #[.int .i64 a1_0, .int .i64 a1_1, .int .i64 a1_2, .int .i64 a1_3, .int .i64 a1_4]) (t := 43) ?hr ?_; (case hd => rfl); (case hg => rfl); (case hr => first | (go_simp; done) | (go_simp; rfl)); intro gb392 hg w4 hbox hb; have n0_ := Aside0.mk (below_step (by repeat (first | (with_reducible first | exact HB.out | apply below_alloc | apply pw_below_drewN | apply below_drew1) | exact HB.out)) hb); have n1_ := Aside0.mk (hbox); have n2_ := Aside0.mk ((by rw [hg]; exact (below_size (by repeat (first | (with_reducible first | exact HB.out | apply below_alloc | apply pw_below_drewN | apply below_drew1) | exact HB.out))) : w.heap.size ≤ gb392)); have n3_ := Aside0.mk ((by rw [hg]; exact (below_size (by repeat (first | (with_reducible first | exact HB.out | apply below_alloc | apply pw_below_drewN | apply below_drew1) | exact HB.out))) : w.heap.size ≤ gb392)); clear HB; have HB := n0_; have BK392 := n1_; have GW392 := n2_; have GE392 := n3_; clear n0_ n1_ n2_ n3_; clear hb hbox hg; have hcz5_0 : w4.cell? ⟨gb392, 0, none⟩ = some (.int .i64 a1_0) := (blk_cell BK392.out 0).trans rfl; have hcz5_1 : w4.cell? ⟨gb392, 1, none⟩ = some (.int .i64 a1_1) := (blk_cell BK392.out 1).trans rfl; have hcz5_2 : w4.cell? ⟨gb392, 2, none⟩ = some (.int .i64 a1_2) := (blk_cell BK392.out 2).trans rfl; have hcz5_3 : w4.cell? ⟨gb392, 3, none⟩ = some (.int .i64 a1_3) := (blk_cell BK392.out 3).trans rfl; have hcz5_4 : w4.cell? ⟨gb392, 4, none⟩ = some (.int .i64 a1_4) := (blk_cell BK392.out 4).trans rfl; have hfz5_0 := blk_frozen BK392.out 0; have hfz5_1 := blk_frozen BK392.out 1; have hfz5_2 := blk_frozen BK392.out 2; have hfz5_3 := blk_frozen BK392.out 3; have hfz5_4 := blk_frozen BK392.out 4))
  repeat (go_quiet (first | ((with_reducible refine gate_dst (N := 3) rfl ?_); (try (refine gate_guard (by rfl) ?_; dsimp only)); refine box_event ?hg (N := 3) ?hd (cs := #[.int .i64 a1_0, .int .i64 a1_1, .int .i64 a1_2, .int .i64 a1_3, .int .i64 a1_4]) (t := 43) ?hr ?_; (case hd => rfl); (case hg => rfl); (case hr => first | (go_simp; done) | (go_simp; rfl)); intro gb392 hg w4 hbox hb; have n0_ := Aside0.mk (below_step (by repeat (first | (with_reducible first | exact HB.out | apply below_alloc | apply pw_below_drewN | apply below_drew1) | exact HB.out)) hb); have n1_ := Aside0.mk (hbox); have n2_ := Aside0.mk ((by rw [hg]; exact (below_size (by repeat (first | (with_reducible first | exact HB.out | apply below_alloc | apply pw_below_drewN | apply below_drew1) | exact HB.out))) : w.heap.size ≤ gb392)); have n3_ := Aside0.mk ((by rw [hg]; exact (below_size (by repeat (first | (with_reducible first | exact HB.out | apply below_alloc | apply pw_below_drewN | apply below_drew1) | exact HB.out))) : w.heap.size ≤ gb392)); clear HB; have HB := n0_; have BK392 := n1_; have GW392 := n2_; have GE392 := n3_; clear n0_ n1_ n2_ n3_; clear hb hbox hg; have hcz5_0 : w4.cell? ⟨gb392, 0, none⟩ = some (.int .i64 a1_0) := (blk_cell BK392.out 0).trans rfl; have hcz5_1 : w4.cell? ⟨gb392, 1, none⟩ = some (.int .i64 a1_1) := (blk_cell BK392.out 1).trans rfl; have hcz5_2 : w4.cell? ⟨gb392, 2, none⟩ = some (.int .i64 a1_2) := (blk_cell BK392.out 2).trans rfl; have hcz5_3 : w4.cell? ⟨gb392, 3, none⟩ = some (.int .i64 a1_3) := (blk_cell BK392.out 3).trans rfl; have hcz5_4 : w4.cell? ⟨gb392, 4, none⟩ = some (.int .i64 a1_4) := (blk_cell BK392.out 4).trans rfl; have hfz5_0 := blk_frozen BK392.out 0; have hfz5_1 := blk_frozen BK392.out 1; have hfz5_2 := blk_frozen BK392.out 2; have hfz5_3 := blk_frozen BK392.out 3; have hfz5_4 := blk_frozen BK392.out 4)); try go_wp2_with (first | ((with_reducible refine gate_dst (N := 3) rfl ?_); (try (refine gate_guard (by rfl) ?_; dsimp only)); refine box_event ?hg (N := 3) ?hd (cs := #[.int .i64 a1_0, .int .i64 a1_1, .int .i64 a1_2, .int .i64 a1_3, .int .i64 a1_4]) (t := 43) ?hr ?_; (case hd => rfl); (case hg => rfl); (case hr => first | (go_simp; done) | (go_simp; rfl)); intro gb392 hg w4 hbox hb; have n0_ := Aside0.mk (below_step (by repeat (first | (with_reducible first | exact HB.out | apply below_alloc | apply pw_below_drewN | apply below_drew1) | exact HB.out)) hb); have n1_ := Aside0.mk (hbox); have n2_ := Aside0.mk ((by rw [hg]; exact (below_size (by repeat (first | (with_reducible first | exact HB.out | apply below_alloc | apply pw_below_drewN | apply below_drew1) | exact HB.out))) : w.heap.size ≤ gb392)); have n3_ := Aside0.mk ((by rw [hg]; exact (below_size (by repeat (first | (with_reducible first | exact HB.out | apply below_alloc | apply pw_below_drewN | apply below_drew1) | exact HB.out))) : w.heap.size ≤ gb392)); clear HB; have HB := n0_; have BK392 := n1_; have GW392 := n2_; have GE392 := n3_; clear n0_ n1_ n2_ n3_; clear hb hbox hg; have hcz5_0 : w4.cell? ⟨gb392, 0, none⟩ = some (.int .i64 a1_0) := (blk_cell BK392.out 0).trans rfl; have hcz5_1 : w4.cell? ⟨gb392, 1, none⟩ = some (.int .i64 a1_1) := (blk_cell BK392.out 1).trans rfl; have hcz5_2 : w4.cell? ⟨gb392, 2, none⟩ = some (.int .i64 a1_2) := (blk_cell BK392.out 2).trans rfl; have hcz5_3 : w4.cell? ⟨gb392, 3, none⟩ = some (.int .i64 a1_3) := (blk_cell BK392.out 3).trans rfl; have hcz5_4 : w4.cell? ⟨gb392, 4, none⟩ = some (.int .i64 a1_4) := (blk_cell BK392.out 4).trans rfl; have hfz5_0 := blk_frozen BK392.out 0; have hfz5_1 := blk_frozen BK392.out 1; have hfz5_2 := blk_frozen BK392.out 2; have hfz5_3 := blk_frozen BK392.out 3; have hfz5_4 := blk_frozen BK392.out 4)))
  go_ret2
  exact ⟨by first | rfl | (simp [errW_none, errW_some] <;> rfl) | (simp [*, errW_none, errW_some] <;> rfl), by repeat (first | (with_reducible first | exact HB.out | apply below_alloc | apply pw_below_drewN | apply below_drew1 | refine below_set ?_ GE392.out) | exact HB.out)⟩
 ·rw [if_neg c3] at H
  have c3b0 : (a1_0 == 3) = false := beq_eq_false_iff_ne.mpr c3
  have c3b1 : (a1_0 != 3) = true := bne_iff_ne.mpr c3
  have HC6 := Aside0.mk H
  clear H
  go_enter Try.func62, Try.ntmps62
  go_upto_region 3 with (first | ((with_reducible refine gate_dst (N := 3) rfl ?_); (try (refine gate_guard (by rfl) ?_; dsimp only)); refine box_event ?hg (N := 3) ?hd (cs := #[.int .i64 a1_0, .int .i64 a1_1, .int .i64 a1_2, .int .i64 a1_3, .int .i64 a1_4]) (t := 43) ?hr ?_; (case hd => rfl); (case hg => rfl); (case hr => first | (go_simp; done) | (go_simp; rfl)); intro gb392 hg w7 hbox hb; have n0_ := Aside0.mk (below_step (by repeat (first | (with_reducible first | exact HB.out | apply below_alloc | apply pw_below_drewN | apply below_drew1) | exact HB.out)) hb); have n1_ := Aside0.mk (hbox); have n2_ := Aside0.mk ((by rw [hg]; exact (below_size (by repeat (first | (with_reducible first | exact HB.out | apply below_alloc | apply pw_below_drewN | apply below_drew1) | exact HB.out))) : w.heap.size ≤ gb392)); have n3_ := Aside0.mk ((by rw [hg]; exact (below_size (by repeat (first | (with_reducible first | exact HB.out | apply below_alloc | apply pw_below_drewN | apply below_drew1) | exact HB.out))) : w.heap.size ≤ gb392)); clear HB; have HB := n0_; have BK392 := n1_; have GW392 := n2_; have GE392 := n3_; clear n0_ n1_ n2_ n3_; clear hb hbox hg; have hcz8_0 : w7.cell? ⟨gb392, 0, none⟩ = some (.int .i64 a1_0) := (blk_cell BK392.out 0).trans rfl; have hcz8_1 : w7.cell? ⟨gb392, 1, none⟩ = some (.int .i64 a1_1) := (blk_cell BK392.out 1).trans rfl; have hcz8_2 : w7.cell? ⟨gb392, 2, none⟩ = some (.int .i64 a1_2) := (blk_cell BK392.out 2).trans rfl; have hcz8_3 : w7.cell? ⟨gb392, 3, none⟩ = some (.int .i64 a1_3) := (blk_cell BK392.out 3).trans rfl; have hcz8_4 : w7.cell? ⟨gb392, 4, none⟩ = some (.int .i64 a1_4) := (blk_cell BK392.out 4).trans rfl; have hfz8_0 := blk_frozen BK392.out 0; have hfz8_1 := blk_frozen BK392.out 1; have hfz8_2 := blk_frozen BK392.out 2; have hfz8_3 := blk_frozen BK392.out 3; have hfz8_4 := blk_frozen BK392.out 4))
  repeat (go_quiet (first | ((with_reducible refine gate_dst (N := 3) rfl ?_); (try (refine gate_guard (by rfl) ?_; dsimp only)); refine box_event ?hg (N := 3) ?hd (cs := #[.int .i64 a1_0, .int .i64 a1_1, .int .i64 a1_2, .int .i64 a1_3, .int .i64 a1_4]) (t := 43) ?hr ?_; (case hd => rfl); (case hg => rfl); (case hr => first | (go_simp; done) | (go_simp; rfl)); intro gb392 hg w7 hbox hb; have n0_ := Aside0.mk (below_step (by repeat (first | (with_reducible first | exact HB.out | apply below_alloc | apply pw_below_drewN | apply below_drew1) | exact HB.out)) hb); have n1_ := Aside0.mk (hbox); have n2_ := Aside0.mk ((by rw [hg]; exact (below_size (by repeat (first | (with_reducible first | exact HB.out | apply below_alloc | apply pw_below_drewN | apply below_drew1) | exact HB.out))) : w.heap.size ≤ gb392)); have n3_ := Aside0.mk ((by rw [hg]; exact (below_size (by repeat (first | (with_reducible first | exact HB.out | apply below_alloc | apply pw_below_drewN | apply below_drew1) | exact HB.out))) : w.heap.size ≤ gb392)); clear HB; have HB := n0_; have BK392 := n1_; have GW392 := n2_; have GE392 := n3_; clear n0_ n1_ n2_ n3_; clear hb hbox hg; have hcz8_0 : w7.cell? ⟨gb392, 0, none⟩ = some (.int .i64 a1_0) := (blk_cell BK392.out 0).trans rfl; have hcz8_1 : w7.cell? ⟨gb392, 1, none⟩ = some (.int .i64 a1_1) := (blk_cell BK392.out 1).trans rfl; have hcz8_2 : w7.cell? ⟨gb392, 2, none⟩ = some (.int .i64 a1_2) := (blk_cell BK392.out 2).trans rfl; have hcz8_3 : w7.cell? ⟨gb392, 3, none⟩ = some (.int .i64 a1_3) := (blk_cell BK392.out 3).trans rfl; have hcz8_4 : w7.cell? ⟨gb392, 4, none⟩ = some (.int .i64 a1_4) := (blk_cell BK392.out 4).trans rfl; have hfz8_0 := blk_frozen BK392.out 0; have hfz8_1 := blk_frozen BK392.out 1; have hfz8_2 := blk_frozen BK392.out 2; have hfz8_3 := blk_frozen BK392.out 3; have hfz8_4 := blk_frozen BK392.out 4)); go_upto_region 3 with (first | ((with_reducible refine gate_dst (N := 3) rfl ?_); (try (refine gate_guard (by rfl) ?_; dsimp only)); refine box_event ?hg (N := 3) ?hd (cs := #[.int .i64 a1_0, .int .i64 a1_1, .int .i64 a1_2, .int .i64 a1_3, .int .i64 a1_4]) (t := 43) ?hr ?_; (case hd => rfl); (case hg => rfl); (case hr => first | (go_simp; done) | (go_simp; rfl)); intro gb392 hg w7 hbox hb; have n0_ := Aside0.mk (below_step (by repeat (first | (with_reducible first | exact HB.out | apply below_alloc | apply pw_below_drewN | apply below_drew1) | exact HB.out)) hb); have n1_ := Aside0.mk (hbox); have n2_ := Aside0.mk ((by rw [hg]; exact (below_size (by repeat (first | (with_reducible first | exact HB.out | apply below_alloc | apply pw_below_drewN | apply below_drew1) | exact HB.out))) : w.heap.size ≤ gb392)); have n3_ := Aside0.mk ((by rw [hg]; exact (below_size (by repeat (first | (with_reducible first | exact HB.out | apply below_alloc | apply pw_below_drewN | apply below_drew1) | exact HB.out))) : w.heap.size ≤ gb392)); clear HB; have HB := n0_; have BK392 := n1_; have GW392 := n2_; have GE392 := n3_; clear n0_ n1_ n2_ n3_; clear hb hbox hg; have hcz8_0 : w7.cell? ⟨gb392, 0, none⟩ = some (.int .i64 a1_0) := (blk_cell BK392.out 0).trans rfl; have hcz8_1 : w7.cell? ⟨gb392, 1, none⟩ = some (.int .i64 a1_1) := (blk_cell BK392.out 1).trans rfl; have hcz8_2 : w7.cell? ⟨gb392, 2, none⟩ = some (.int .i64 a1_2) := (blk_cell BK392.out 2).trans rfl; have hcz8_3 : w7.cell? ⟨gb392, 3, none⟩ = some (.int .i64 a1_3) := (blk_cell BK392.out 3).trans rfl; have hcz8_4 : w7.cell? ⟨gb392, 4, none⟩ = some (.int .i64 a1_4) := (blk_cell BK392.out 4).trans rfl; have hfz8_0 := blk_frozen BK392.out 0; have hfz8_1 := blk_frozen BK392.out 1; have hfz8_2 := blk_frozen BK392.out 2; have hfz8_3 := blk_frozen BK392.out 3; have hfz8_4 := blk_frozen BK392.out 4)))
  (try simp only [Act.put, List.setIfInBounds_toArray, List.set_cons_zero, List.set_cons_succ])
  go_cut [19] (fun v19 wc => ∃ (kq : Nat) (x19_5 : Bool), v19 = .bool x19_5 ∧ Aside0 (lines_shows.j0 kq l0 x19_5 a1_0 a1_1 a1_2 a1_3 a1_4 = some (r1, r2)) ∧ Aside0 (kq ≤ k) ∧ Aside0 (wc.heap[gb392]? = some (.cells #[.int .i64 a1_0, .int .i64 a1_1, .int .i64 a1_2, .int .i64 a1_3, .int .i64 a1_4] 43 (0, 0))) ∧ Aside0 (Below w.heap.size w wc))
  case first =>
   have H := HC6.out
   clear HC6
   by_cases c9 : a1_4 < 0
   ·rw [if_pos c9] at H
    have c9b0 : decide (a1_4 < 0) = true := decide_eq_true c9
    clear c9
    (first | rw [c9b0] | (simp only [i64_w, i32_w]; rw [c9b0]) | skip)
    have H' := Aside0.mk H
    clear H
    have hcz10_0 : w7.cell? ⟨gb392, 0, none⟩ = some (.int .i64 a1_0) := (blk_cell BK392.out 0).trans rfl
    have hcz10_1 : w7.cell? ⟨gb392, 1, none⟩ = some (.int .i64 a1_1) := (blk_cell BK392.out 1).trans rfl
    have hcz10_2 : w7.cell? ⟨gb392, 2, none⟩ = some (.int .i64 a1_2) := (blk_cell BK392.out 2).trans rfl
    have hcz10_3 : w7.cell? ⟨gb392, 3, none⟩ = some (.int .i64 a1_3) := (blk_cell BK392.out 3).trans rfl
    have hcz10_4 : w7.cell? ⟨gb392, 4, none⟩ = some (.int .i64 a1_4) := (blk_cell BK392.out 4).trans rfl
    have hfz10_0 := blk_frozen BK392.out 0
    have hfz10_1 := blk_frozen BK392.out 1
    have hfz10_2 := blk_frozen BK392.out 2
    have hfz10_3 := blk_frozen BK392.out 3
    have hfz10_4 := blk_frozen BK392.out 4
    go_wp2
    repeat (go_quiet (fail); try go_wp2)
    go_meet
    case rel => exact ⟨_, (true), (by first | rfl | (simp; done) | (simp [*]; done)), H', ⟨by first | omega | exact Nat.le_refl _⟩, ⟨by (with_reducible repeat (first | refine blk_drewN ?_ _ | refine blk_drew ?_ | refine blk_alloc ?_ _)); exact BK392.out⟩, ⟨by repeat (first | (with_reducible first | exact HB.out | apply below_alloc | apply pw_below_drewN | apply below_drew1 | refine below_set ?_ GE392.out) | exact HB.out)⟩⟩
   ·rw [if_neg c9] at H
    have c9b0 : decide (a1_4 < 0) = false := decide_eq_false c9
    clear c9
    (first | rw [c9b0] | (simp only [i64_w, i32_w]; rw [c9b0]) | skip)
    have H' := Aside0.mk H
    clear H
    have hcz11_0 : w7.cell? ⟨gb392, 0, none⟩ = some (.int .i64 a1_0) := (blk_cell BK392.out 0).trans rfl
    have hcz11_1 : w7.cell? ⟨gb392, 1, none⟩ = some (.int .i64 a1_1) := (blk_cell BK392.out 1).trans rfl
    have hcz11_2 : w7.cell? ⟨gb392, 2, none⟩ = some (.int .i64 a1_2) := (blk_cell BK392.out 2).trans rfl
    have hcz11_3 : w7.cell? ⟨gb392, 3, none⟩ = some (.int .i64 a1_3) := (blk_cell BK392.out 3).trans rfl
    have hcz11_4 : w7.cell? ⟨gb392, 4, none⟩ = some (.int .i64 a1_4) := (blk_cell BK392.out 4).trans rfl
    have hfz11_0 := blk_frozen BK392.out 0
    have hfz11_1 := blk_frozen BK392.out 1
    have hfz11_2 := blk_frozen BK392.out 2
    have hfz11_3 := blk_frozen BK392.out 3
    have hfz11_4 := blk_frozen BK392.out 4
    go_wp2
    repeat (go_quiet (fail); try go_wp2)
    go_meet
    case rel => exact ⟨_, (decide (a1_4 ≥ (l0.length : Int))), (by first | rfl | (simp; done) | (simp [*]; done)), H', ⟨by first | omega | exact Nat.le_refl _⟩, ⟨by (with_reducible repeat (first | refine blk_drewN ?_ _ | refine blk_drew ?_ | refine blk_alloc ?_ _)); exact BK392.out⟩, ⟨by repeat (first | (with_reducible first | exact HB.out | apply below_alloc | apply pw_below_drewN | apply below_drew1 | refine below_set ?_ GE392.out) | exact HB.out)⟩⟩
  case rest =>
   clear HC6
   try clear p2
   try clear c3
   try clear c3b0
   try clear c3b1
   try clear c6
   try clear c9
   try clear c9b0
   try clear hcz10_0
   try clear hcz10_1
   try clear hcz10_2
   try clear hcz10_3
   try clear hcz10_4
   try clear hcz11_0
   try clear hcz11_1
   try clear hcz11_2
   try clear hcz11_3
   try clear hcz11_4
   try clear hcz5_0
   try clear hcz5_1
   try clear hcz5_2
   try clear hcz5_3
   try clear hcz5_4
   try clear hcz8_0
   try clear hcz8_1
   try clear hcz8_2
   try clear hcz8_3
   try clear hcz8_4
   try clear hfz10_0
   try clear hfz10_1
   try clear hfz10_2
   try clear hfz10_3
   try clear hfz10_4
   try clear hfz11_0
   try clear hfz11_1
   try clear hfz11_2
   try clear hfz11_3
   try clear hfz11_4
   try clear hfz5_0
   try clear hfz5_1
   try clear hfz5_2
   try clear hfz5_3
   try clear hfz5_4
   try clear hfz8_0
   try clear hfz8_1
   try clear hfz8_2
   try clear hfz8_3
   try clear hfz8_4
   obtain ⟨kq, x19_5, rfl, HA, HJ5, BK392, HB⟩ := hcut
   cases kq with
   | zero => exact absurd HA.out (by simp [lines_shows.j0])
   | succ kj5 =>
    have H := HA.out
    clear HA
    simp only [lines_shows.j0] at H
    by_cases c12 : x19_5 = true
    ·subst c12
     have H1 : (some (0, false)) = some (r1, r2) := by rw [if_pos rfl] at H; exact H
     clear H
     have H := H1
     clear H1
     simp only [Option.some.injEq, Prod.mk.injEq] at H
     obtain ⟨rfl, rfl⟩ := H
     go_wp2
     repeat (go_quiet (fail); try go_wp2)
     go_ret2
     exact ⟨by first | rfl | (simp [errW_none, errW_some] <;> rfl) | (simp [*, errW_none, errW_some] <;> rfl), by repeat (first | (with_reducible first | exact HB.out | apply below_alloc | apply pw_below_drewN | apply below_drew1 | refine below_set ?_ GE392.out) | exact HB.out)⟩
    ·replace c12 := Bool.eq_false_iff.mpr c12
     subst c12
     have H1 : (if 0 ≤ a1_4 then (if a1_4 < (l0.length : Int) then (if a1_0 = 4 then (if ((rd_T101 l0 a1_4).f0) = 2 then (some (42, (((rd_T101 l0 a1_4).f1) == 110))) else (some (42, false))) else (some ((rd_T101 l0 a1_4).f1, (((rd_T101 l0 a1_4).f0) == 1)))) else (none)) else (none)) = some (r1, r2) := by rw [if_neg (show ¬ (false = true) by decide)] at H; exact H
     clear H
     have H := H1
     clear H1
     by_cases c13 : 0 ≤ a1_4
     ·rw [if_pos c13] at H
      have c13b0 : decide (0 ≤ a1_4) = true := decide_eq_true c13
      clear c13
      by_cases c14 : a1_4 < (l0.length : Int)
      ·rw [if_pos c14] at H
       have c14b0 : decide (a1_4 < (l0.length : Int)) = true := decide_eq_true c14
       clear c14
       by_cases c15 : a1_0 = 4
       ·rw [if_pos c15] at H
        have c15b0 : (a1_0 == 4) = true := beq_iff_eq.mpr c15
        have c15b1 : (a1_0 != 4) = false := bne_eq_false_iff_eq.mpr c15
        clear c15
        by_cases c16 : ((rd_T101 l0 a1_4).f0) = 2
        ·rw [if_pos c16] at H
         have c16b0 : (((rd_T101 l0 a1_4).f0) == 2) = true := beq_iff_eq.mpr c16
         have c16b1 : (((rd_T101 l0 a1_4).f0) != 2) = false := bne_eq_false_iff_eq.mpr c16
         clear c16
         simp only [Option.some.injEq, Prod.mk.injEq] at H
         obtain ⟨rfl, rfl⟩ := H
         have hcz17_0 : wc.cell? ⟨gb392, 0, none⟩ = some (.int .i64 a1_0) := (blk_cell BK392.out 0).trans rfl
         have hcz17_1 : wc.cell? ⟨gb392, 1, none⟩ = some (.int .i64 a1_1) := (blk_cell BK392.out 1).trans rfl
         have hcz17_2 : wc.cell? ⟨gb392, 2, none⟩ = some (.int .i64 a1_2) := (blk_cell BK392.out 2).trans rfl
         have hcz17_3 : wc.cell? ⟨gb392, 3, none⟩ = some (.int .i64 a1_3) := (blk_cell BK392.out 3).trans rfl
         have hcz17_4 : wc.cell? ⟨gb392, 4, none⟩ = some (.int .i64 a1_4) := (blk_cell BK392.out 4).trans rfl
         have hfz17_0 := blk_frozen BK392.out 0
         have hfz17_1 := blk_frozen BK392.out 1
         have hfz17_2 := blk_frozen BK392.out 2
         have hfz17_3 := blk_frozen BK392.out 3
         have hfz17_4 := blk_frozen BK392.out 4
         have p393 : 0 ≤ (a1_4 : Int) := of_decide_eq_true (by first | (with_reducible assumption) | assumption)
         have q393 : a1_4 < (l0.length : Int) := of_decide_eq_true (by first | (with_reducible assumption) | assumption)
         obtain ⟨ad393, e393, hx393_0, hx393_1, hx393_2⟩ := at_T101 HR0.out a1_4 p393 q393
         cases e393
         replace hx393_0 := (HB.out.cell (World.block_lt_of_cell? w _ hx393_0)).trans hx393_0
         replace hx393_1 := (HB.out.cell (World.block_lt_of_cell? w _ hx393_1)).trans hx393_1
         replace hx393_2 := (HB.out.cell (World.block_lt_of_cell? w _ hx393_2)).trans hx393_2
         replace p393 := eq_true p393
         replace q393 := eq_true q393
         go_wp2_with (first | ((with_reducible refine gate_dst (N := 6) rfl ?_); (try (refine gate_guard (by rfl) ?_; dsimp only)); refine box_event ?hg (N := 6) ?hd (cs := #[.int .i64 0, .int .u8 0, .int .i64 0]) (t := 101) ?hr ?_; (case hd => rfl); (case hg => rfl); (case hr => first | (go_simp; done) | (go_simp; rfl)); intro gb394 hg w18 hbox hb; have n0_ := Aside0.mk (blk_below (g := gb392) (o := .cells #[.int .i64 a1_0, .int .i64 a1_1, .int .i64 a1_2, .int .i64 a1_3, .int .i64 a1_4] 43 (0, 0)) (by (with_reducible repeat (first | refine blk_drewN ?_ _ | refine blk_drew ?_ | refine blk_alloc ?_ _)); exact BK392.out) hb); have n1_ := Aside0.mk (below_step (by repeat (first | (with_reducible first | exact HB.out | apply below_alloc | apply pw_below_drewN | apply below_drew1 | refine below_set ?_ GE392.out) | exact HB.out)) hb); have n2_ := Aside0.mk (hbox); have n3_ := Aside0.mk ((by rw [hg]; exact (below_size (by repeat (first | (with_reducible first | exact HB.out | apply below_alloc | apply pw_below_drewN | apply below_drew1 | refine below_set ?_ GE392.out) | exact HB.out))) : w.heap.size ≤ gb394)); have n4_ := Aside0.mk ((by rw [hg]; exact (below_size (by repeat (first | (with_reducible first | exact HB.out | apply below_alloc | apply pw_below_drewN | apply below_drew1 | refine below_set ?_ GE392.out) | exact HB.out))) : w.heap.size ≤ gb394)); have n5_ := Aside0.mk ((by rw [hg]; exact Nat.ne_of_lt (blk_lt (g := gb392) (o := .cells #[.int .i64 a1_0, .int .i64 a1_1, .int .i64 a1_2, .int .i64 a1_3, .int .i64 a1_4] 43 (0, 0)) (by (with_reducible repeat (first | refine blk_drewN ?_ _ | refine blk_drew ?_ | refine blk_alloc ?_ _)); exact BK392.out)) : gb392 ≠ gb394)); have n6_ := Aside0.mk ((by rw [hg]; exact Nat.ne_of_gt (blk_lt (g := gb392) (o := .cells #[.int .i64 a1_0, .int .i64 a1_1, .int .i64 a1_2, .int .i64 a1_3, .int .i64 a1_4] 43 (0, 0)) (by (with_reducible repeat (first | refine blk_drewN ?_ _ | refine blk_drew ?_ | refine blk_alloc ?_ _)); exact BK392.out)) : gb394 ≠ gb392)); clear BK392; clear HB; have BK392 := n0_; have HB := n1_; have BK394 := n2_; have GW394 := n3_; have GE394 := n4_; have NB392_394 := n5_; have NB394_392 := n6_; clear n0_ n1_ n2_ n3_ n4_ n5_ n6_; clear hb hbox hg; have hnb19 := NB394_392.out; have hnc19 := NB392_394.out; have hcz20_0 : w18.cell? ⟨gb394, 0, none⟩ = some (.int .i64 0) := (blk_cell BK394.out 0).trans rfl; have hcz20_1 : w18.cell? ⟨gb394, 1, none⟩ = some (.int .u8 0) := (blk_cell BK394.out 1).trans rfl; have hcz20_2 : w18.cell? ⟨gb394, 2, none⟩ = some (.int .i64 0) := (blk_cell BK394.out 2).trans rfl; have hfz20_0 := blk_frozen BK394.out 0; have hfz20_1 := blk_frozen BK394.out 1; have hfz20_2 := blk_frozen BK394.out 2; have hcz21_0 : w18.cell? ⟨gb392, 0, none⟩ = some (.int .i64 a1_0) := (blk_cell BK392.out 0).trans rfl; have hcz21_1 : w18.cell? ⟨gb392, 1, none⟩ = some (.int .i64 a1_1) := (blk_cell BK392.out 1).trans rfl; have hcz21_2 : w18.cell? ⟨gb392, 2, none⟩ = some (.int .i64 a1_2) := (blk_cell BK392.out 2).trans rfl; have hcz21_3 : w18.cell? ⟨gb392, 3, none⟩ = some (.int .i64 a1_3) := (blk_cell BK392.out 3).trans rfl; have hcz21_4 : w18.cell? ⟨gb392, 4, none⟩ = some (.int .i64 a1_4) := (blk_cell BK392.out 4).trans rfl; have hfz21_0 := blk_frozen BK392.out 0; have hfz21_1 := blk_frozen BK392.out 1; have hfz21_2 := blk_frozen BK392.out 2; have hfz21_3 := blk_frozen BK392.out 3; have hfz21_4 := blk_frozen BK392.out 4))
         repeat (go_quiet (first | ((with_reducible refine gate_dst (N := 6) rfl ?_); (try (refine gate_guard (by rfl) ?_; dsimp only)); refine box_event ?hg (N := 6) ?hd (cs := #[.int .i64 0, .int .u8 0, .int .i64 0]) (t := 101) ?hr ?_; (case hd => rfl); (case hg => rfl); (case hr => first | (go_simp; done) | (go_simp; rfl)); intro gb394 hg w18 hbox hb; have n0_ := Aside0.mk (blk_below (g := gb392) (o := .cells #[.int .i64 a1_0, .int .i64 a1_1, .int .i64 a1_2, .int .i64 a1_3, .int .i64 a1_4] 43 (0, 0)) (by (with_reducible repeat (first | refine blk_drewN ?_ _ | refine blk_drew ?_ | refine blk_alloc ?_ _)); exact BK392.out) hb); have n1_ := Aside0.mk (below_step (by repeat (first | (with_reducible first | exact HB.out | apply below_alloc | apply pw_below_drewN | apply below_drew1 | refine below_set ?_ GE392.out) | exact HB.out)) hb); have n2_ := Aside0.mk (hbox); have n3_ := Aside0.mk ((by rw [hg]; exact (below_size (by repeat (first | (with_reducible first | exact HB.out | apply below_alloc | apply pw_below_drewN | apply below_drew1 | refine below_set ?_ GE392.out) | exact HB.out))) : w.heap.size ≤ gb394)); have n4_ := Aside0.mk ((by rw [hg]; exact (below_size (by repeat (first | (with_reducible first | exact HB.out | apply below_alloc | apply pw_below_drewN | apply below_drew1 | refine below_set ?_ GE392.out) | exact HB.out))) : w.heap.size ≤ gb394)); have n5_ := Aside0.mk ((by rw [hg]; exact Nat.ne_of_lt (blk_lt (g := gb392) (o := .cells #[.int .i64 a1_0, .int .i64 a1_1, .int .i64 a1_2, .int .i64 a1_3, .int .i64 a1_4] 43 (0, 0)) (by (with_reducible repeat (first | refine blk_drewN ?_ _ | refine blk_drew ?_ | refine blk_alloc ?_ _)); exact BK392.out)) : gb392 ≠ gb394)); have n6_ := Aside0.mk ((by rw [hg]; exact Nat.ne_of_gt (blk_lt (g := gb392) (o := .cells #[.int .i64 a1_0, .int .i64 a1_1, .int .i64 a1_2, .int .i64 a1_3, .int .i64 a1_4] 43 (0, 0)) (by (with_reducible repeat (first | refine blk_drewN ?_ _ | refine blk_drew ?_ | refine blk_alloc ?_ _)); exact BK392.out)) : gb394 ≠ gb392)); clear BK392; clear HB; have BK392 := n0_; have HB := n1_; have BK394 := n2_; have GW394 := n3_; have GE394 := n4_; have NB392_394 := n5_; have NB394_392 := n6_; clear n0_ n1_ n2_ n3_ n4_ n5_ n6_; clear hb hbox hg; have hnb19 := NB394_392.out; have hnc19 := NB392_394.out; have hcz20_0 : w18.cell? ⟨gb394, 0, none⟩ = some (.int .i64 0) := (blk_cell BK394.out 0).trans rfl; have hcz20_1 : w18.cell? ⟨gb394, 1, none⟩ = some (.int .u8 0) := (blk_cell BK394.out 1).trans rfl; have hcz20_2 : w18.cell? ⟨gb394, 2, none⟩ = some (.int .i64 0) := (blk_cell BK394.out 2).trans rfl; have hfz20_0 := blk_frozen BK394.out 0; have hfz20_1 := blk_frozen BK394.out 1; have hfz20_2 := blk_frozen BK394.out 2; have hcz21_0 : w18.cell? ⟨gb392, 0, none⟩ = some (.int .i64 a1_0) := (blk_cell BK392.out 0).trans rfl; have hcz21_1 : w18.cell? ⟨gb392, 1, none⟩ = some (.int .i64 a1_1) := (blk_cell BK392.out 1).trans rfl; have hcz21_2 : w18.cell? ⟨gb392, 2, none⟩ = some (.int .i64 a1_2) := (blk_cell BK392.out 2).trans rfl; have hcz21_3 : w18.cell? ⟨gb392, 3, none⟩ = some (.int .i64 a1_3) := (blk_cell BK392.out 3).trans rfl; have hcz21_4 : w18.cell? ⟨gb392, 4, none⟩ = some (.int .i64 a1_4) := (blk_cell BK392.out 4).trans rfl; have hfz21_0 := blk_frozen BK392.out 0; have hfz21_1 := blk_frozen BK392.out 1; have hfz21_2 := blk_frozen BK392.out 2; have hfz21_3 := blk_frozen BK392.out 3; have hfz21_4 := blk_frozen BK392.out 4)); try go_wp2_with (first | ((with_reducible refine gate_dst (N := 6) rfl ?_); (try (refine gate_guard (by rfl) ?_; dsimp only)); refine box_event ?hg (N := 6) ?hd (cs := #[.int .i64 0, .int .u8 0, .int .i64 0]) (t := 101) ?hr ?_; (case hd => rfl); (case hg => rfl); (case hr => first | (go_simp; done) | (go_simp; rfl)); intro gb394 hg w18 hbox hb; have n0_ := Aside0.mk (blk_below (g := gb392) (o := .cells #[.int .i64 a1_0, .int .i64 a1_1, .int .i64 a1_2, .int .i64 a1_3, .int .i64 a1_4] 43 (0, 0)) (by (with_reducible repeat (first | refine blk_drewN ?_ _ | refine blk_drew ?_ | refine blk_alloc ?_ _)); exact BK392.out) hb); have n1_ := Aside0.mk (below_step (by repeat (first | (with_reducible first | exact HB.out | apply below_alloc | apply pw_below_drewN | apply below_drew1 | refine below_set ?_ GE392.out) | exact HB.out)) hb); have n2_ := Aside0.mk (hbox); have n3_ := Aside0.mk ((by rw [hg]; exact (below_size (by repeat (first | (with_reducible first | exact HB.out | apply below_alloc | apply pw_below_drewN | apply below_drew1 | refine below_set ?_ GE392.out) | exact HB.out))) : w.heap.size ≤ gb394)); have n4_ := Aside0.mk ((by rw [hg]; exact (below_size (by repeat (first | (with_reducible first | exact HB.out | apply below_alloc | apply pw_below_drewN | apply below_drew1 | refine below_set ?_ GE392.out) | exact HB.out))) : w.heap.size ≤ gb394)); have n5_ := Aside0.mk ((by rw [hg]; exact Nat.ne_of_lt (blk_lt (g := gb392) (o := .cells #[.int .i64 a1_0, .int .i64 a1_1, .int .i64 a1_2, .int .i64 a1_3, .int .i64 a1_4] 43 (0, 0)) (by (with_reducible repeat (first | refine blk_drewN ?_ _ | refine blk_drew ?_ | refine blk_alloc ?_ _)); exact BK392.out)) : gb392 ≠ gb394)); have n6_ := Aside0.mk ((by rw [hg]; exact Nat.ne_of_gt (blk_lt (g := gb392) (o := .cells #[.int .i64 a1_0, .int .i64 a1_1, .int .i64 a1_2, .int .i64 a1_3, .int .i64 a1_4] 43 (0, 0)) (by (with_reducible repeat (first | refine blk_drewN ?_ _ | refine blk_drew ?_ | refine blk_alloc ?_ _)); exact BK392.out)) : gb394 ≠ gb392)); clear BK392; clear HB; have BK392 := n0_; have HB := n1_; have BK394 := n2_; have GW394 := n3_; have GE394 := n4_; have NB392_394 := n5_; have NB394_392 := n6_; clear n0_ n1_ n2_ n3_ n4_ n5_ n6_; clear hb hbox hg; have hnb19 := NB394_392.out; have hnc19 := NB392_394.out; have hcz20_0 : w18.cell? ⟨gb394, 0, none⟩ = some (.int .i64 0) := (blk_cell BK394.out 0).trans rfl; have hcz20_1 : w18.cell? ⟨gb394, 1, none⟩ = some (.int .u8 0) := (blk_cell BK394.out 1).trans rfl; have hcz20_2 : w18.cell? ⟨gb394, 2, none⟩ = some (.int .i64 0) := (blk_cell BK394.out 2).trans rfl; have hfz20_0 := blk_frozen BK394.out 0; have hfz20_1 := blk_frozen BK394.out 1; have hfz20_2 := blk_frozen BK394.out 2; have hcz21_0 : w18.cell? ⟨gb392, 0, none⟩ = some (.int .i64 a1_0) := (blk_cell BK392.out 0).trans rfl; have hcz21_1 : w18.cell? ⟨gb392, 1, none⟩ = some (.int .i64 a1_1) := (blk_cell BK392.out 1).trans rfl; have hcz21_2 : w18.cell? ⟨gb392, 2, none⟩ = some (.int .i64 a1_2) := (blk_cell BK392.out 2).trans rfl; have hcz21_3 : w18.cell? ⟨gb392, 3, none⟩ = some (.int .i64 a1_3) := (blk_cell BK392.out 3).trans rfl; have hcz21_4 : w18.cell? ⟨gb392, 4, none⟩ = some (.int .i64 a1_4) := (blk_cell BK392.out 4).trans rfl; have hfz21_0 := blk_frozen BK392.out 0; have hfz21_1 := blk_frozen BK392.out 1; have hfz21_2 := blk_frozen BK392.out 2; have hfz21_3 := blk_frozen BK392.out 3; have hfz21_4 := blk_frozen BK392.out 4)))
         go_ret2
         exact ⟨by first | rfl | (simp [errW_none, errW_some] <;> rfl) | (simp [*, errW_none, errW_some] <;> rfl), by repeat (first | (with_reducible first | exact HB.out | apply below_alloc | apply pw_below_drewN | apply below_drew1 | refine below_set ?_ GE392.out | refine below_set ?_ GE394.out) | exact HB.out)⟩
        ·rw [if_neg c16] at H
         have c16b0 : (((rd_T101 l0 a1_4).f0) == 2) = false := beq_eq_false_iff_ne.mpr c16
         have c16b1 : (((rd_T101 l0 a1_4).f0) != 2) = true := bne_iff_ne.mpr c16
         simp only [Option.some.injEq, Prod.mk.injEq] at H
         obtain ⟨rfl, rfl⟩ := H
         have hcz22_0 : wc.cell? ⟨gb392, 0, none⟩ = some (.int .i64 a1_0) := (blk_cell BK392.out 0).trans rfl
         have hcz22_1 : wc.cell? ⟨gb392, 1, none⟩ = some (.int .i64 a1_1) := (blk_cell BK392.out 1).trans rfl
         have hcz22_2 : wc.cell? ⟨gb392, 2, none⟩ = some (.int .i64 a1_2) := (blk_cell BK392.out 2).trans rfl
         have hcz22_3 : wc.cell? ⟨gb392, 3, none⟩ = some (.int .i64 a1_3) := (blk_cell BK392.out 3).trans rfl
         have hcz22_4 : wc.cell? ⟨gb392, 4, none⟩ = some (.int .i64 a1_4) := (blk_cell BK392.out 4).trans rfl
         have hfz22_0 := blk_frozen BK392.out 0
         have hfz22_1 := blk_frozen BK392.out 1
         have hfz22_2 := blk_frozen BK392.out 2
         have hfz22_3 := blk_frozen BK392.out 3
         have hfz22_4 := blk_frozen BK392.out 4
         have p393 : 0 ≤ (a1_4 : Int) := of_decide_eq_true (by first | (with_reducible assumption) | assumption)
         have q393 : a1_4 < (l0.length : Int) := of_decide_eq_true (by first | (with_reducible assumption) | assumption)
         obtain ⟨ad393, e393, hx393_0, hx393_1, hx393_2⟩ := at_T101 HR0.out a1_4 p393 q393
         cases e393
         replace hx393_0 := (HB.out.cell (World.block_lt_of_cell? w _ hx393_0)).trans hx393_0
         replace hx393_1 := (HB.out.cell (World.block_lt_of_cell? w _ hx393_1)).trans hx393_1
         replace hx393_2 := (HB.out.cell (World.block_lt_of_cell? w _ hx393_2)).trans hx393_2
         replace p393 := eq_true p393
         replace q393 := eq_true q393
         go_wp2_with (first | ((with_reducible refine gate_dst (N := 6) rfl ?_); (try (refine gate_guard (by rfl) ?_; dsimp only)); refine box_event ?hg (N := 6) ?hd (cs := #[.int .i64 0, .int .u8 0, .int .i64 0]) (t := 101) ?hr ?_; (case hd => rfl); (case hg => rfl); (case hr => first | (go_simp; done) | (go_simp; rfl)); intro gb394 hg w23 hbox hb; have n0_ := Aside0.mk (blk_below (g := gb392) (o := .cells #[.int .i64 a1_0, .int .i64 a1_1, .int .i64 a1_2, .int .i64 a1_3, .int .i64 a1_4] 43 (0, 0)) (by (with_reducible repeat (first | refine blk_drewN ?_ _ | refine blk_drew ?_ | refine blk_alloc ?_ _)); exact BK392.out) hb); have n1_ := Aside0.mk (below_step (by repeat (first | (with_reducible first | exact HB.out | apply below_alloc | apply pw_below_drewN | apply below_drew1 | refine below_set ?_ GE392.out) | exact HB.out)) hb); have n2_ := Aside0.mk (hbox); have n3_ := Aside0.mk ((by rw [hg]; exact (below_size (by repeat (first | (with_reducible first | exact HB.out | apply below_alloc | apply pw_below_drewN | apply below_drew1 | refine below_set ?_ GE392.out) | exact HB.out))) : w.heap.size ≤ gb394)); have n4_ := Aside0.mk ((by rw [hg]; exact (below_size (by repeat (first | (with_reducible first | exact HB.out | apply below_alloc | apply pw_below_drewN | apply below_drew1 | refine below_set ?_ GE392.out) | exact HB.out))) : w.heap.size ≤ gb394)); have n5_ := Aside0.mk ((by rw [hg]; exact Nat.ne_of_lt (blk_lt (g := gb392) (o := .cells #[.int .i64 a1_0, .int .i64 a1_1, .int .i64 a1_2, .int .i64 a1_3, .int .i64 a1_4] 43 (0, 0)) (by (with_reducible repeat (first | refine blk_drewN ?_ _ | refine blk_drew ?_ | refine blk_alloc ?_ _)); exact BK392.out)) : gb392 ≠ gb394)); have n6_ := Aside0.mk ((by rw [hg]; exact Nat.ne_of_gt (blk_lt (g := gb392) (o := .cells #[.int .i64 a1_0, .int .i64 a1_1, .int .i64 a1_2, .int .i64 a1_3, .int .i64 a1_4] 43 (0, 0)) (by (with_reducible repeat (first | refine blk_drewN ?_ _ | refine blk_drew ?_ | refine blk_alloc ?_ _)); exact BK392.out)) : gb394 ≠ gb392)); clear BK392; clear HB; have BK392 := n0_; have HB := n1_; have BK394 := n2_; have GW394 := n3_; have GE394 := n4_; have NB392_394 := n5_; have NB394_392 := n6_; clear n0_ n1_ n2_ n3_ n4_ n5_ n6_; clear hb hbox hg; have hnb24 := NB394_392.out; have hnc24 := NB392_394.out; have hcz25_0 : w23.cell? ⟨gb394, 0, none⟩ = some (.int .i64 0) := (blk_cell BK394.out 0).trans rfl; have hcz25_1 : w23.cell? ⟨gb394, 1, none⟩ = some (.int .u8 0) := (blk_cell BK394.out 1).trans rfl; have hcz25_2 : w23.cell? ⟨gb394, 2, none⟩ = some (.int .i64 0) := (blk_cell BK394.out 2).trans rfl; have hfz25_0 := blk_frozen BK394.out 0; have hfz25_1 := blk_frozen BK394.out 1; have hfz25_2 := blk_frozen BK394.out 2; have hcz26_0 : w23.cell? ⟨gb392, 0, none⟩ = some (.int .i64 a1_0) := (blk_cell BK392.out 0).trans rfl; have hcz26_1 : w23.cell? ⟨gb392, 1, none⟩ = some (.int .i64 a1_1) := (blk_cell BK392.out 1).trans rfl; have hcz26_2 : w23.cell? ⟨gb392, 2, none⟩ = some (.int .i64 a1_2) := (blk_cell BK392.out 2).trans rfl; have hcz26_3 : w23.cell? ⟨gb392, 3, none⟩ = some (.int .i64 a1_3) := (blk_cell BK392.out 3).trans rfl; have hcz26_4 : w23.cell? ⟨gb392, 4, none⟩ = some (.int .i64 a1_4) := (blk_cell BK392.out 4).trans rfl; have hfz26_0 := blk_frozen BK392.out 0; have hfz26_1 := blk_frozen BK392.out 1; have hfz26_2 := blk_frozen BK392.out 2; have hfz26_3 := blk_frozen BK392.out 3; have hfz26_4 := blk_frozen BK392.out 4))
         repeat (go_quiet (first | ((with_reducible refine gate_dst (N := 6) rfl ?_); (try (refine gate_guard (by rfl) ?_; dsimp only)); refine box_event ?hg (N := 6) ?hd (cs := #[.int .i64 0, .int .u8 0, .int .i64 0]) (t := 101) ?hr ?_; (case hd => rfl); (case hg => rfl); (case hr => first | (go_simp; done) | (go_simp; rfl)); intro gb394 hg w23 hbox hb; have n0_ := Aside0.mk (blk_below (g := gb392) (o := .cells #[.int .i64 a1_0, .int .i64 a1_1, .int .i64 a1_2, .int .i64 a1_3, .int .i64 a1_4] 43 (0, 0)) (by (with_reducible repeat (first | refine blk_drewN ?_ _ | refine blk_drew ?_ | refine blk_alloc ?_ _)); exact BK392.out) hb); have n1_ := Aside0.mk (below_step (by repeat (first | (with_reducible first | exact HB.out | apply below_alloc | apply pw_below_drewN | apply below_drew1 | refine below_set ?_ GE392.out) | exact HB.out)) hb); have n2_ := Aside0.mk (hbox); have n3_ := Aside0.mk ((by rw [hg]; exact (below_size (by repeat (first | (with_reducible first | exact HB.out | apply below_alloc | apply pw_below_drewN | apply below_drew1 | refine below_set ?_ GE392.out) | exact HB.out))) : w.heap.size ≤ gb394)); have n4_ := Aside0.mk ((by rw [hg]; exact (below_size (by repeat (first | (with_reducible first | exact HB.out | apply below_alloc | apply pw_below_drewN | apply below_drew1 | refine below_set ?_ GE392.out) | exact HB.out))) : w.heap.size ≤ gb394)); have n5_ := Aside0.mk ((by rw [hg]; exact Nat.ne_of_lt (blk_lt (g := gb392) (o := .cells #[.int .i64 a1_0, .int .i64 a1_1, .int .i64 a1_2, .int .i64 a1_3, .int .i64 a1_4] 43 (0, 0)) (by (with_reducible repeat (first | refine blk_drewN ?_ _ | refine blk_drew ?_ | refine blk_alloc ?_ _)); exact BK392.out)) : gb392 ≠ gb394)); have n6_ := Aside0.mk ((by rw [hg]; exact Nat.ne_of_gt (blk_lt (g := gb392) (o := .cells #[.int .i64 a1_0, .int .i64 a1_1, .int .i64 a1_2, .int .i64 a1_3, .int .i64 a1_4] 43 (0, 0)) (by (with_reducible repeat (first | refine blk_drewN ?_ _ | refine blk_drew ?_ | refine blk_alloc ?_ _)); exact BK392.out)) : gb394 ≠ gb392)); clear BK392; clear HB; have BK392 := n0_; have HB := n1_; have BK394 := n2_; have GW394 := n3_; have GE394 := n4_; have NB392_394 := n5_; have NB394_392 := n6_; clear n0_ n1_ n2_ n3_ n4_ n5_ n6_; clear hb hbox hg; have hnb24 := NB394_392.out; have hnc24 := NB392_394.out; have hcz25_0 : w23.cell? ⟨gb394, 0, none⟩ = some (.int .i64 0) := (blk_cell BK394.out 0).trans rfl; have hcz25_1 : w23.cell? ⟨gb394, 1, none⟩ = some (.int .u8 0) := (blk_cell BK394.out 1).trans rfl; have hcz25_2 : w23.cell? ⟨gb394, 2, none⟩ = some (.int .i64 0) := (blk_cell BK394.out 2).trans rfl; have hfz25_0 := blk_frozen BK394.out 0; have hfz25_1 := blk_frozen BK394.out 1; have hfz25_2 := blk_frozen BK394.out 2; have hcz26_0 : w23.cell? ⟨gb392, 0, none⟩ = some (.int .i64 a1_0) := (blk_cell BK392.out 0).trans rfl; have hcz26_1 : w23.cell? ⟨gb392, 1, none⟩ = some (.int .i64 a1_1) := (blk_cell BK392.out 1).trans rfl; have hcz26_2 : w23.cell? ⟨gb392, 2, none⟩ = some (.int .i64 a1_2) := (blk_cell BK392.out 2).trans rfl; have hcz26_3 : w23.cell? ⟨gb392, 3, none⟩ = some (.int .i64 a1_3) := (blk_cell BK392.out 3).trans rfl; have hcz26_4 : w23.cell? ⟨gb392, 4, none⟩ = some (.int .i64 a1_4) := (blk_cell BK392.out 4).trans rfl; have hfz26_0 := blk_frozen BK392.out 0; have hfz26_1 := blk_frozen BK392.out 1; have hfz26_2 := blk_frozen BK392.out 2; have hfz26_3 := blk_frozen BK392.out 3; have hfz26_4 := blk_frozen BK392.out 4)); try go_wp2_with (first | ((with_reducible refine gate_dst (N := 6) rfl ?_); (try (refine gate_guard (by rfl) ?_; dsimp only)); refine box_event ?hg (N := 6) ?hd (cs := #[.int .i64 0, .int .u8 0, .int .i64 0]) (t := 101) ?hr ?_; (case hd => rfl); (case hg => rfl); (case hr => first | (go_simp; done) | (go_simp; rfl)); intro gb394 hg w23 hbox hb; have n0_ := Aside0.mk (blk_below (g := gb392) (o := .cells #[.int .i64 a1_0, .int .i64 a1_1, .int .i64 a1_2, .int .i64 a1_3, .int .i64 a1_4] 43 (0, 0)) (by (with_reducible repeat (first | refine blk_drewN ?_ _ | refine blk_drew ?_ | refine blk_alloc ?_ _)); exact BK392.out) hb); have n1_ := Aside0.mk (below_step (by repeat (first | (with_reducible first | exact HB.out | apply below_alloc | apply pw_below_drewN | apply below_drew1 | refine below_set ?_ GE392.out) | exact HB.out)) hb); have n2_ := Aside0.mk (hbox); have n3_ := Aside0.mk ((by rw [hg]; exact (below_size (by repeat (first | (with_reducible first | exact HB.out | apply below_alloc | apply pw_below_drewN | apply below_drew1 | refine below_set ?_ GE392.out) | exact HB.out))) : w.heap.size ≤ gb394)); have n4_ := Aside0.mk ((by rw [hg]; exact (below_size (by repeat (first | (with_reducible first | exact HB.out | apply below_alloc | apply pw_below_drewN | apply below_drew1 | refine below_set ?_ GE392.out) | exact HB.out))) : w.heap.size ≤ gb394)); have n5_ := Aside0.mk ((by rw [hg]; exact Nat.ne_of_lt (blk_lt (g := gb392) (o := .cells #[.int .i64 a1_0, .int .i64 a1_1, .int .i64 a1_2, .int .i64 a1_3, .int .i64 a1_4] 43 (0, 0)) (by (with_reducible repeat (first | refine blk_drewN ?_ _ | refine blk_drew ?_ | refine blk_alloc ?_ _)); exact BK392.out)) : gb392 ≠ gb394)); have n6_ := Aside0.mk ((by rw [hg]; exact Nat.ne_of_gt (blk_lt (g := gb392) (o := .cells #[.int .i64 a1_0, .int .i64 a1_1, .int .i64 a1_2, .int .i64 a1_3, .int .i64 a1_4] 43 (0, 0)) (by (with_reducible repeat (first | refine blk_drewN ?_ _ | refine blk_drew ?_ | refine blk_alloc ?_ _)); exact BK392.out)) : gb394 ≠ gb392)); clear BK392; clear HB; have BK392 := n0_; have HB := n1_; have BK394 := n2_; have GW394 := n3_; have GE394 := n4_; have NB392_394 := n5_; have NB394_392 := n6_; clear n0_ n1_ n2_ n3_ n4_ n5_ n6_; clear hb hbox hg; have hnb24 := NB394_392.out; have hnc24 := NB392_394.out; have hcz25_0 : w23.cell? ⟨gb394, 0, none⟩ = some (.int .i64 0) := (blk_cell BK394.out 0).trans rfl; have hcz25_1 : w23.cell? ⟨gb394, 1, none⟩ = some (.int .u8 0) := (blk_cell BK394.out 1).trans rfl; have hcz25_2 : w23.cell? ⟨gb394, 2, none⟩ = some (.int .i64 0) := (blk_cell BK394.out 2).trans rfl; have hfz25_0 := blk_frozen BK394.out 0; have hfz25_1 := blk_frozen BK394.out 1; have hfz25_2 := blk_frozen BK394.out 2; have hcz26_0 : w23.cell? ⟨gb392, 0, none⟩ = some (.int .i64 a1_0) := (blk_cell BK392.out 0).trans rfl; have hcz26_1 : w23.cell? ⟨gb392, 1, none⟩ = some (.int .i64 a1_1) := (blk_cell BK392.out 1).trans rfl; have hcz26_2 : w23.cell? ⟨gb392, 2, none⟩ = some (.int .i64 a1_2) := (blk_cell BK392.out 2).trans rfl; have hcz26_3 : w23.cell? ⟨gb392, 3, none⟩ = some (.int .i64 a1_3) := (blk_cell BK392.out 3).trans rfl; have hcz26_4 : w23.cell? ⟨gb392, 4, none⟩ = some (.int .i64 a1_4) := (blk_cell BK392.out 4).trans rfl; have hfz26_0 := blk_frozen BK392.out 0; have hfz26_1 := blk_frozen BK392.out 1; have hfz26_2 := blk_frozen BK392.out 2; have hfz26_3 := blk_frozen BK392.out 3; have hfz26_4 := blk_frozen BK392.out 4)))
         go_ret2
         exact ⟨by first | rfl | (simp [errW_none, errW_some] <;> rfl) | (simp [*, errW_none, errW_some] <;> rfl), by repeat (first | (with_reducible first | exact HB.out | apply below_alloc | apply pw_below_drewN | apply below_drew1 | refine below_set ?_ GE392.out | refine below_set ?_ GE394.out) | exact HB.out)⟩
       ·rw [if_neg c15] at H
        have c15b0 : (a1_0 == 4) = false := beq_eq_false_iff_ne.mpr c15
        have c15b1 : (a1_0 != 4) = true := bne_iff_ne.mpr c15
        simp only [Option.some.injEq, Prod.mk.injEq] at H
        obtain ⟨rfl, rfl⟩ := H
        have hcz27_0 : wc.cell? ⟨gb392, 0, none⟩ = some (.int .i64 a1_0) := (blk_cell BK392.out 0).trans rfl
        have hcz27_1 : wc.cell? ⟨gb392, 1, none⟩ = some (.int .i64 a1_1) := (blk_cell BK392.out 1).trans rfl
        have hcz27_2 : wc.cell? ⟨gb392, 2, none⟩ = some (.int .i64 a1_2) := (blk_cell BK392.out 2).trans rfl
        have hcz27_3 : wc.cell? ⟨gb392, 3, none⟩ = some (.int .i64 a1_3) := (blk_cell BK392.out 3).trans rfl
        have hcz27_4 : wc.cell? ⟨gb392, 4, none⟩ = some (.int .i64 a1_4) := (blk_cell BK392.out 4).trans rfl
        have hfz27_0 := blk_frozen BK392.out 0
        have hfz27_1 := blk_frozen BK392.out 1
        have hfz27_2 := blk_frozen BK392.out 2
        have hfz27_3 := blk_frozen BK392.out 3
        have hfz27_4 := blk_frozen BK392.out 4
        have p393 : 0 ≤ (a1_4 : Int) := of_decide_eq_true (by first | (with_reducible assumption) | assumption)
        have q393 : a1_4 < (l0.length : Int) := of_decide_eq_true (by first | (with_reducible assumption) | assumption)
        obtain ⟨ad393, e393, hx393_0, hx393_1, hx393_2⟩ := at_T101 HR0.out a1_4 p393 q393
        cases e393
        replace hx393_0 := (HB.out.cell (World.block_lt_of_cell? w _ hx393_0)).trans hx393_0
        replace hx393_1 := (HB.out.cell (World.block_lt_of_cell? w _ hx393_1)).trans hx393_1
        replace hx393_2 := (HB.out.cell (World.block_lt_of_cell? w _ hx393_2)).trans hx393_2
        replace p393 := eq_true p393
        replace q393 := eq_true q393
        go_wp2_with (first | ((with_reducible refine gate_dst (N := 6) rfl ?_); (try (refine gate_guard (by rfl) ?_; dsimp only)); refine box_event ?hg (N := 6) ?hd (cs := #[.int .i64 0, .int .u8 0, .int .i64 0]) (t := 101) ?hr ?_; (case hd => rfl); (case hg => rfl); (case hr => first | (go_simp; done) | (go_simp; rfl)); intro gb394 hg w28 hbox hb; have n0_ := Aside0.mk (blk_below (g := gb392) (o := .cells #[.int .i64 a1_0, .int .i64 a1_1, .int .i64 a1_2, .int .i64 a1_3, .int .i64 a1_4] 43 (0, 0)) (by (with_reducible repeat (first | refine blk_drewN ?_ _ | refine blk_drew ?_ | refine blk_alloc ?_ _)); exact BK392.out) hb); have n1_ := Aside0.mk (below_step (by repeat (first | (with_reducible first | exact HB.out | apply below_alloc | apply pw_below_drewN | apply below_drew1 | refine below_set ?_ GE392.out) | exact HB.out)) hb); have n2_ := Aside0.mk (hbox); have n3_ := Aside0.mk ((by rw [hg]; exact (below_size (by repeat (first | (with_reducible first | exact HB.out | apply below_alloc | apply pw_below_drewN | apply below_drew1 | refine below_set ?_ GE392.out) | exact HB.out))) : w.heap.size ≤ gb394)); have n4_ := Aside0.mk ((by rw [hg]; exact (below_size (by repeat (first | (with_reducible first | exact HB.out | apply below_alloc | apply pw_below_drewN | apply below_drew1 | refine below_set ?_ GE392.out) | exact HB.out))) : w.heap.size ≤ gb394)); have n5_ := Aside0.mk ((by rw [hg]; exact Nat.ne_of_lt (blk_lt (g := gb392) (o := .cells #[.int .i64 a1_0, .int .i64 a1_1, .int .i64 a1_2, .int .i64 a1_3, .int .i64 a1_4] 43 (0, 0)) (by (with_reducible repeat (first | refine blk_drewN ?_ _ | refine blk_drew ?_ | refine blk_alloc ?_ _)); exact BK392.out)) : gb392 ≠ gb394)); have n6_ := Aside0.mk ((by rw [hg]; exact Nat.ne_of_gt (blk_lt (g := gb392) (o := .cells #[.int .i64 a1_0, .int .i64 a1_1, .int .i64 a1_2, .int .i64 a1_3, .int .i64 a1_4] 43 (0, 0)) (by (with_reducible repeat (first | refine blk_drewN ?_ _ | refine blk_drew ?_ | refine blk_alloc ?_ _)); exact BK392.out)) : gb394 ≠ gb392)); clear BK392; clear HB; have BK392 := n0_; have HB := n1_; have BK394 := n2_; have GW394 := n3_; have GE394 := n4_; have NB392_394 := n5_; have NB394_392 := n6_; clear n0_ n1_ n2_ n3_ n4_ n5_ n6_; clear hb hbox hg; have hnb29 := NB394_392.out; have hnc29 := NB392_394.out; have hcz30_0 : w28.cell? ⟨gb394, 0, none⟩ = some (.int .i64 0) := (blk_cell BK394.out 0).trans rfl; have hcz30_1 : w28.cell? ⟨gb394, 1, none⟩ = some (.int .u8 0) := (blk_cell BK394.out 1).trans rfl; have hcz30_2 : w28.cell? ⟨gb394, 2, none⟩ = some (.int .i64 0) := (blk_cell BK394.out 2).trans rfl; have hfz30_0 := blk_frozen BK394.out 0; have hfz30_1 := blk_frozen BK394.out 1; have hfz30_2 := blk_frozen BK394.out 2; have hcz31_0 : w28.cell? ⟨gb392, 0, none⟩ = some (.int .i64 a1_0) := (blk_cell BK392.out 0).trans rfl; have hcz31_1 : w28.cell? ⟨gb392, 1, none⟩ = some (.int .i64 a1_1) := (blk_cell BK392.out 1).trans rfl; have hcz31_2 : w28.cell? ⟨gb392, 2, none⟩ = some (.int .i64 a1_2) := (blk_cell BK392.out 2).trans rfl; have hcz31_3 : w28.cell? ⟨gb392, 3, none⟩ = some (.int .i64 a1_3) := (blk_cell BK392.out 3).trans rfl; have hcz31_4 : w28.cell? ⟨gb392, 4, none⟩ = some (.int .i64 a1_4) := (blk_cell BK392.out 4).trans rfl; have hfz31_0 := blk_frozen BK392.out 0; have hfz31_1 := blk_frozen BK392.out 1; have hfz31_2 := blk_frozen BK392.out 2; have hfz31_3 := blk_frozen BK392.out 3; have hfz31_4 := blk_frozen BK392.out 4))
        repeat (go_quiet (first | ((with_reducible refine gate_dst (N := 6) rfl ?_); (try (refine gate_guard (by rfl) ?_; dsimp only)); refine box_event ?hg (N := 6) ?hd (cs := #[.int .i64 0, .int .u8 0, .int .i64 0]) (t := 101) ?hr ?_; (case hd => rfl); (case hg => rfl); (case hr => first | (go_simp; done) | (go_simp; rfl)); intro gb394 hg w28 hbox hb; have n0_ := Aside0.mk (blk_below (g := gb392) (o := .cells #[.int .i64 a1_0, .int .i64 a1_1, .int .i64 a1_2, .int .i64 a1_3, .int .i64 a1_4] 43 (0, 0)) (by (with_reducible repeat (first | refine blk_drewN ?_ _ | refine blk_drew ?_ | refine blk_alloc ?_ _)); exact BK392.out) hb); have n1_ := Aside0.mk (below_step (by repeat (first | (with_reducible first | exact HB.out | apply below_alloc | apply pw_below_drewN | apply below_drew1 | refine below_set ?_ GE392.out) | exact HB.out)) hb); have n2_ := Aside0.mk (hbox); have n3_ := Aside0.mk ((by rw [hg]; exact (below_size (by repeat (first | (with_reducible first | exact HB.out | apply below_alloc | apply pw_below_drewN | apply below_drew1 | refine below_set ?_ GE392.out) | exact HB.out))) : w.heap.size ≤ gb394)); have n4_ := Aside0.mk ((by rw [hg]; exact (below_size (by repeat (first | (with_reducible first | exact HB.out | apply below_alloc | apply pw_below_drewN | apply below_drew1 | refine below_set ?_ GE392.out) | exact HB.out))) : w.heap.size ≤ gb394)); have n5_ := Aside0.mk ((by rw [hg]; exact Nat.ne_of_lt (blk_lt (g := gb392) (o := .cells #[.int .i64 a1_0, .int .i64 a1_1, .int .i64 a1_2, .int .i64 a1_3, .int .i64 a1_4] 43 (0, 0)) (by (with_reducible repeat (first | refine blk_drewN ?_ _ | refine blk_drew ?_ | refine blk_alloc ?_ _)); exact BK392.out)) : gb392 ≠ gb394)); have n6_ := Aside0.mk ((by rw [hg]; exact Nat.ne_of_gt (blk_lt (g := gb392) (o := .cells #[.int .i64 a1_0, .int .i64 a1_1, .int .i64 a1_2, .int .i64 a1_3, .int .i64 a1_4] 43 (0, 0)) (by (with_reducible repeat (first | refine blk_drewN ?_ _ | refine blk_drew ?_ | refine blk_alloc ?_ _)); exact BK392.out)) : gb394 ≠ gb392)); clear BK392; clear HB; have BK392 := n0_; have HB := n1_; have BK394 := n2_; have GW394 := n3_; have GE394 := n4_; have NB392_394 := n5_; have NB394_392 := n6_; clear n0_ n1_ n2_ n3_ n4_ n5_ n6_; clear hb hbox hg; have hnb29 := NB394_392.out; have hnc29 := NB392_394.out; have hcz30_0 : w28.cell? ⟨gb394, 0, none⟩ = some (.int .i64 0) := (blk_cell BK394.out 0).trans rfl; have hcz30_1 : w28.cell? ⟨gb394, 1, none⟩ = some (.int .u8 0) := (blk_cell BK394.out 1).trans rfl; have hcz30_2 : w28.cell? ⟨gb394, 2, none⟩ = some (.int .i64 0) := (blk_cell BK394.out 2).trans rfl; have hfz30_0 := blk_frozen BK394.out 0; have hfz30_1 := blk_frozen BK394.out 1; have hfz30_2 := blk_frozen BK394.out 2; have hcz31_0 : w28.cell? ⟨gb392, 0, none⟩ = some (.int .i64 a1_0) := (blk_cell BK392.out 0).trans rfl; have hcz31_1 : w28.cell? ⟨gb392, 1, none⟩ = some (.int .i64 a1_1) := (blk_cell BK392.out 1).trans rfl; have hcz31_2 : w28.cell? ⟨gb392, 2, none⟩ = some (.int .i64 a1_2) := (blk_cell BK392.out 2).trans rfl; have hcz31_3 : w28.cell? ⟨gb392, 3, none⟩ = some (.int .i64 a1_3) := (blk_cell BK392.out 3).trans rfl; have hcz31_4 : w28.cell? ⟨gb392, 4, none⟩ = some (.int .i64 a1_4) := (blk_cell BK392.out 4).trans rfl; have hfz31_0 := blk_frozen BK392.out 0; have hfz31_1 := blk_frozen BK392.out 1; have hfz31_2 := blk_frozen BK392.out 2; have hfz31_3 := blk_frozen BK392.out 3; have hfz31_4 := blk_frozen BK392.out 4)); try go_wp2_with (first | ((with_reducible refine gate_dst (N := 6) rfl ?_); (try (refine gate_guard (by rfl) ?_; dsimp only)); refine box_event ?hg (N := 6) ?hd (cs := #[.int .i64 0, .int .u8 0, .int .i64 0]) (t := 101) ?hr ?_; (case hd => rfl); (case hg => rfl); (case hr => first | (go_simp; done) | (go_simp; rfl)); intro gb394 hg w28 hbox hb; have n0_ := Aside0.mk (blk_below (g := gb392) (o := .cells #[.int .i64 a1_0, .int .i64 a1_1, .int .i64 a1_2, .int .i64 a1_3, .int .i64 a1_4] 43 (0, 0)) (by (with_reducible repeat (first | refine blk_drewN ?_ _ | refine blk_drew ?_ | refine blk_alloc ?_ _)); exact BK392.out) hb); have n1_ := Aside0.mk (below_step (by repeat (first | (with_reducible first | exact HB.out | apply below_alloc | apply pw_below_drewN | apply below_drew1 | refine below_set ?_ GE392.out) | exact HB.out)) hb); have n2_ := Aside0.mk (hbox); have n3_ := Aside0.mk ((by rw [hg]; exact (below_size (by repeat (first | (with_reducible first | exact HB.out | apply below_alloc | apply pw_below_drewN | apply below_drew1 | refine below_set ?_ GE392.out) | exact HB.out))) : w.heap.size ≤ gb394)); have n4_ := Aside0.mk ((by rw [hg]; exact (below_size (by repeat (first | (with_reducible first | exact HB.out | apply below_alloc | apply pw_below_drewN | apply below_drew1 | refine below_set ?_ GE392.out) | exact HB.out))) : w.heap.size ≤ gb394)); have n5_ := Aside0.mk ((by rw [hg]; exact Nat.ne_of_lt (blk_lt (g := gb392) (o := .cells #[.int .i64 a1_0, .int .i64 a1_1, .int .i64 a1_2, .int .i64 a1_3, .int .i64 a1_4] 43 (0, 0)) (by (with_reducible repeat (first | refine blk_drewN ?_ _ | refine blk_drew ?_ | refine blk_alloc ?_ _)); exact BK392.out)) : gb392 ≠ gb394)); have n6_ := Aside0.mk ((by rw [hg]; exact Nat.ne_of_gt (blk_lt (g := gb392) (o := .cells #[.int .i64 a1_0, .int .i64 a1_1, .int .i64 a1_2, .int .i64 a1_3, .int .i64 a1_4] 43 (0, 0)) (by (with_reducible repeat (first | refine blk_drewN ?_ _ | refine blk_drew ?_ | refine blk_alloc ?_ _)); exact BK392.out)) : gb394 ≠ gb392)); clear BK392; clear HB; have BK392 := n0_; have HB := n1_; have BK394 := n2_; have GW394 := n3_; have GE394 := n4_; have NB392_394 := n5_; have NB394_392 := n6_; clear n0_ n1_ n2_ n3_ n4_ n5_ n6_; clear hb hbox hg; have hnb29 := NB394_392.out; have hnc29 := NB392_394.out; have hcz30_0 : w28.cell? ⟨gb394, 0, none⟩ = some (.int .i64 0) := (blk_cell BK394.out 0).trans rfl; have hcz30_1 : w28.cell? ⟨gb394, 1, none⟩ = some (.int .u8 0) := (blk_cell BK394.out 1).trans rfl; have hcz30_2 : w28.cell? ⟨gb394, 2, none⟩ = some (.int .i64 0) := (blk_cell BK394.out 2).trans rfl; have hfz30_0 := blk_frozen BK394.out 0; have hfz30_1 := blk_frozen BK394.out 1; have hfz30_2 := blk_frozen BK394.out 2; have hcz31_0 : w28.cell? ⟨gb392, 0, none⟩ = some (.int .i64 a1_0) := (blk_cell BK392.out 0).trans rfl; have hcz31_1 : w28.cell? ⟨gb392, 1, none⟩ = some (.int .i64 a1_1) := (blk_cell BK392.out 1).trans rfl; have hcz31_2 : w28.cell? ⟨gb392, 2, none⟩ = some (.int .i64 a1_2) := (blk_cell BK392.out 2).trans rfl; have hcz31_3 : w28.cell? ⟨gb392, 3, none⟩ = some (.int .i64 a1_3) := (blk_cell BK392.out 3).trans rfl; have hcz31_4 : w28.cell? ⟨gb392, 4, none⟩ = some (.int .i64 a1_4) := (blk_cell BK392.out 4).trans rfl; have hfz31_0 := blk_frozen BK392.out 0; have hfz31_1 := blk_frozen BK392.out 1; have hfz31_2 := blk_frozen BK392.out 2; have hfz31_3 := blk_frozen BK392.out 3; have hfz31_4 := blk_frozen BK392.out 4)))
        go_ret2
        exact ⟨by first | rfl | (simp [errW_none, errW_some] <;> rfl) | (simp [*, errW_none, errW_some] <;> rfl), by repeat (first | (with_reducible first | exact HB.out | apply below_alloc | apply pw_below_drewN | apply below_drew1 | refine below_set ?_ GE392.out | refine below_set ?_ GE394.out) | exact HB.out)⟩
      ·rw [if_neg c14] at H
       exact absurd H (by simp)
     ·rw [if_neg c13] at H
      exact absurd H (by simp)
end Go.Proofs.Ytbddfnmhhmkfkaa.Pr
namespace Go.Proofs.Ytbddfnmhhmkfkaa.Pr
set_option linter.unusedVariables false
set_option linter.unusedSimpArgs false
open Go.RowKit Go.Proofs.YtbddfnmhhmkfkaaW.PrintWords
attribute [local go_sem] Oper.semAt_some
def Tells (f : Nat) (T : S43 → Int) : Prop := (f = 81 ∨ f = 82 ∨ f = 83) ∧ ∀ (a0 a1 a2 a3 a4 : Int) (w : World), Calls Try.prog f #[.agg #[.int .i64 a0, .int .i64 a1, .int .i64 a2, .int .i64 a3, .int .i64 a4]] w fun e w' => e = .returned (.int .i64 (T ⟨a0, a1, a2, a3, a4⟩)) ∧ Below w.heap.size w w'
def wideT (x : S43) : Int := if x.f0 = 3 then 0 else x.f1
def growT (x : S43) : Int := if x.f0 = 2 then x.f2 else 0
def shrinkT (x : S43) : Int := if x.f0 = 2 then x.f3 else 0
theorem wide_tells : Tells 81 wideT := ⟨by decide, fun a0 a1 a2 a3 a4 w => lines_wide.calls a0 a1 a2 a3 a4 _ w (by unfold lines_wide.f wideT; split <;> rfl)⟩
theorem grow_tells : Tells 82 growT := ⟨by decide, fun a0 a1 a2 a3 a4 w => lines_grows.calls a0 a1 a2 a3 a4 _ w (by unfold lines_grows.f growT; split <;> rfl)⟩
theorem shrink_tells : Tells 83 shrinkT := ⟨by decide, fun a0 a1 a2 a3 a4 w => lines_shrinks.calls a0 a1 a2 a3 a4 _ w (by unfold lines_shrinks.f shrinkT; split <;> rfl)⟩
def sumT (T : S43 → Int) (l : List S43) (k : Nat) : Int := (l.take k).foldl (fun n x => wrap64 (n + T x)) 0
theorem sumT_succ (T : S43 → Int) (l : List S43) (k : Nat) (h : k < l.length) : sumT T l (k + 1) = wrap64 (sumT T l k + T (rd_T43 l k)) := by
 have h1 : l[k]? = some (rd_T43 l k) := by
  unfold rd_T43
  rw [Int.toNat_natCast, List.getD_eq_getElem?_getD, List.getElem?_eq_getElem h]
  rfl
 unfold sumT
 rw [List.take_add_one, h1]
 simp only [Option.toList_some, List.foldl_append, List.foldl_cons, List.foldl_nil]
set_option maxRecDepth 100000 in
set_option maxHeartbeats 2000000 in
theorem sum_calls (f : Nat) (T : S43 → Int) (HT : Tells f T) (A : Option Addr) (c : Nat) (l : List S43) (w : World) (hl : l.length ≤ 1000000) (hA : Kd.C k43 w A l.length l) :
  Calls Try.prog 80 #[.slice A l.length c, .func (.func f) #[] #[]] w fun e w' => e = .returned (.int .i64 (sumT T l l.length)) ∧ Below w.heap.size w w' := by
 have HA := Lib.hid hA
 obtain ⟨hf, hT⟩ := HT
 have HT := Lib.hid hT
 obtain ⟨n, hn⟩ : ∃ n, l.length = n := ⟨_, rfl⟩
 rw [hn] at hA hl ⊢
 have HN := Lib.hid hn
 clear hn hA hT
 rcases hf with rfl | rfl | rfl
 all_goals
  go_enter Try.func80, Try.ntmps80
  go_wp2_with fail
  go_loopw [5, 10] (fun v5 v10 wr => ∃ (k : Nat), v10 = .int .i64 k ∧ k ≤ n ∧ v5 = .int .i64 (sumT T l k) ∧ Below w.heap.size w wr) (fun _ v _ => n - (intOf v).toNat)
  case atStart => exact ⟨0, rfl, Nat.zero_le _, rfl, Below.refl _ _⟩
  case round =>
   obtain ⟨k, rfl, hk, rfl, hB⟩ := hrel
   by_cases hlt : k < n
   ·have hlt1 : (k : Int) < (n : Int) := by omega
    obtain ⟨ad, e1, q0, q1, q2, q3, q4⟩ := at_T43 (Kd.C_below HA.out hB) k (by omega) (by have := HN.out; omega)
    cases e1
    have hnx := Lib.hid (sumT_succ T l k (by have := HN.out; omega))
    generalize rd_T43 l k = x at *
    obtain ⟨f0, f1, f2, f3, f4⟩ := x
    simp only [Int.toNat_natCast] at q0 q1 q2 q3 q4
    go_wp2_with fail
    refine (HT.out f0 f1 f2 f3 f4 _).mono ?_
    rintro _ w2 ⟨rfl, hb⟩
    replace hb := (hB.alloc hB.size _).trans (hb.mono (by have := hB.size; simp; omega))
    go_wp2
    go_roundw
    case rel => exact ⟨k + 1, by go_num, by omega, by rw [hnx.out], hb⟩
    case measure => simp [intOf]; omega
   ·obtain rfl : k = n := by omega
    have hlt1 : ¬ (k : Int) < (k : Int) := by omega
    go_wp2
    go_ret
    exact ⟨rfl, hB⟩
theorem below_both {B : Nat} {w W : World} (h : Below B w W) (p : Addr) (u : Value) : Below B (w.setCell p u) (W.setCell p u) :=
 ⟨h.os, h.tape, h.output, by simpa [World.setCell] using h.size, fun k hk => by simp only [World.setCell, Array.getElem?_modify, h.block k hk]⟩
def quoP (s a all : Int) : Int := wrap64 (Int.tdiv (wrap64 (s * a)) all)
def shareP (s all a t : Int) : Int := wrap64 (quoP s (wrap64 (a + t)) all - quoP s a all)
theorem share_none (x : S43) (gA gS gH gT : Nat) (w : World) (hA : w.heap[gA]? = some (.cells #[.int .i64 0] 3 (0, 0))) :
  Calls Try.prog 84 #[.agg #[.int .i64 x.f0, .int .i64 x.f1, .int .i64 x.f2, .int .i64 x.f3, .int .i64 x.f4], .pointer (some ⟨gA, 0, none⟩), .pointer (some ⟨gS, 0, none⟩), .pointer (some ⟨gH, 0, none⟩), .pointer (some ⟨gT, 0, none⟩)] w fun e w' => e = .returned (.int .i64 0) ∧ Below w.heap.size w w' := by
 have hA1 := blk_cell (blk_alloc hA (.cells #[.int .i64 x.f0, .int .i64 x.f1, .int .i64 x.f2, .int .i64 x.f3, .int .i64 x.f4] 43)) 0
 simp only [List.getElem?_toArray, List.getElem?_cons_zero] at hA1
 go_enter Try.func84, Try.ntmps84
 go_wp2
 go_ret
 exact ⟨rfl, (Below.refl _ w).alloc (Nat.le_refl _) _⟩
set_option maxRecDepth 100000 in
set_option maxHeartbeats 2000000 in
theorem share_some (f : Nat) (T : S43 → Int) (HT : Tells f T) (x : S43) (all s a : Int) (gA gS gH gT : Nat) (w : World) (h0 : all ≠ 0) (hA : w.heap[gA]? = some (.cells #[.int .i64 all] 3 (0, 0))) (hS : w.heap[gS]? = some (.cells #[.int .i64 s] 3 (0, 0)))
  (hH : w.heap[gH]? = some (.cells #[.int .i64 a] 3 (0, 0))) (hT : w.heap[gT]? = some (.cells #[.func (.func f) #[] #[]] 118 (0, 0))) (nA : gA ≠ gH) (nS : gS ≠ gH) (nT : gT ≠ gH) :
  Calls Try.prog 84 #[.agg #[.int .i64 x.f0, .int .i64 x.f1, .int .i64 x.f2, .int .i64 x.f3, .int .i64 x.f4], .pointer (some ⟨gA, 0, none⟩), .pointer (some ⟨gS, 0, none⟩), .pointer (some ⟨gH, 0, none⟩), .pointer (some ⟨gT, 0, none⟩)] w fun e w' =>
   e = .returned (.int .i64 (shareP s all a (T x))) ∧ Below w.heap.size (w.setCell ⟨gH, 0, none⟩ (.int .i64 (wrap64 (a + T x)))) w' := by
 obtain ⟨hf, hT'⟩ := HT
 have HF := Lib.hid hT'
 obtain ⟨f0, f1, f2, f3, f4⟩ := x
 have h0b : (all == 0) = false := beq_eq_false_iff_ne.2 h0
 have hx := blk_new w (.cells #[.int .i64 f0, .int .i64 f1, .int .i64 f2, .int .i64 f3, .int .i64 f4] 43)
 have hlt := blk_lt hH
 have hA1 := blk_alloc hA (.cells #[.int .i64 f0, .int .i64 f1, .int .i64 f2, .int .i64 f3, .int .i64 f4] 43)
 have hS1 := blk_alloc hS (.cells #[.int .i64 f0, .int .i64 f1, .int .i64 f2, .int .i64 f3, .int .i64 f4] 43)
 have hH1 := blk_alloc hH (.cells #[.int .i64 f0, .int .i64 f1, .int .i64 f2, .int .i64 f3, .int .i64 f4] 43)
 have hT1 := blk_alloc hT (.cells #[.int .i64 f0, .int .i64 f1, .int .i64 f2, .int .i64 f3, .int .i64 f4] 43)
 obtain ⟨w1, hw1⟩ : ∃ w1, w.alloc (.cells #[.int .i64 f0, .int .i64 f1, .int .i64 f2, .int .i64 f3, .int .i64 f4] 43) = w1 := ⟨_, rfl⟩
 rw [hw1] at hx hA1 hS1 hH1 hT1
 have hsz : w1.heap.size = w.heap.size + 1 := by rw [← hw1]; simp
 have cA := blk_cell hA1 0
 have cS := blk_cell hS1 0
 have cH := blk_cell hH1 0
 simp only [List.getElem?_toArray, List.getElem?_cons_zero] at cA cS cH
 have HW1 := Lib.hid hw1
 have HX := Lib.hid hx
 have HA1 := Lib.hid hA1
 have HS1 := Lib.hid hS1
 have HH1 := Lib.hid hH1
 have HT1 := Lib.hid hT1
 go_enter Try.func84, Try.ntmps84
 clear hx hA1 hS1 hH1 hT1
 go_wp2_with fail
 clear hw1
 rcases hf with rfl | rfl | rfl
 all_goals
  refine Go.Det.region_det (fun W => Below w1.heap.size w1 W) 5 (by kernel_rfl) (by kernel_rfl) (by kernel_rfl) (by decide) (below_drew1 (Below.refl _ _)) ?_
  repeat
   apply Go.Det.seqW_cons
   focus
    intro W hS
    replace hS : Below w1.heap.size w1 W := hS
    have x0 := blk_cell (blk_below HX.out hS) 0
    have x1 := blk_cell (blk_below HX.out hS) 1
    have x2 := blk_cell (blk_below HX.out hS) 2
    have x3 := blk_cell (blk_below HX.out hS) 3
    have x4 := blk_cell (blk_below HX.out hS) 4
    have xH := blk_cell (blk_below HH1.out hS) 0
    have xT := blk_cell (blk_below HT1.out hS) 0
    simp only [List.getElem?_toArray, List.getElem?_cons_succ, List.getElem?_cons_zero] at x0 x1 x2 x3 x4 xH xT
    go_wp2_with (refine (HF.out f0 f1 f2 f3 f4 _).mono ?_; rintro _ W2 ⟨rfl, hb⟩; replace hS := hS.trans (hb.mono hS.size))
    exact Go.Det.AtEnd.mk hS
  refine Go.Det.seqW_nil ?_
  intro W hS
  replace hS : Below w1.heap.size w1 W := hS
  have yH := blk_below HH1.out hS
  have yA := blk_below HA1.out hS
  have yS := blk_below HS1.out hS
  have zH := blk_frozen yH 0
  have kH := blk_cell yH 0
  have kH' := blk_cell (blk_set yH 0 (.int .i64 (wrap64 (a + T ⟨f0, f1, f2, f3, f4⟩)))) 0
  have kA := blk_cell (blk_far yA (p := ⟨gH, 0, none⟩) nA (.int .i64 (wrap64 (a + T ⟨f0, f1, f2, f3, f4⟩)))) 0
  have kS := blk_cell (blk_far yS (p := ⟨gH, 0, none⟩) nS (.int .i64 (wrap64 (a + T ⟨f0, f1, f2, f3, f4⟩)))) 0
  have hfin : Below w.heap.size (w.setCell ⟨gH, 0, none⟩ (.int .i64 (wrap64 (a + T ⟨f0, f1, f2, f3, f4⟩)))) (W.setCell ⟨gH, 0, none⟩ (.int .i64 (wrap64 (a + T ⟨f0, f1, f2, f3, f4⟩)))) := by
   refine below_both ?_ _ _
   have hB1 := (Below.refl w.heap.size w).alloc (Nat.le_refl _) (.cells #[.int .i64 f0, .int .i64 f1, .int .i64 f2, .int .i64 f3, .int .i64 f4] 43)
   rw [HW1.out] at hB1
   exact hB1.trans (hS.mono (by omega))
  have HFin := Lib.hid hfin
  clear hfin
  simp only [List.getElem?_toArray, List.getElem?_cons_succ, List.getElem?_cons_zero, List.setIfInBounds_toArray, List.set_cons_zero] at kH kH' kA kS
  clear hT' hS hA hH hT hlt yH yA yS hsz
  simp only [List.drop_succ_cons, List.drop_zero]
  go_wp2
  go_ret
  exact ⟨rfl, HFin.out⟩
def sumP (s : S85) (x : S43) : S85 :=
 if x.f0 = 2 then ⟨wrap64 (s.f0 + x.f1), wrap64 (s.f1 + x.f2), wrap64 (s.f2 + x.f3)⟩
 else if x.f0 = 1 ∨ x.f0 = 4 then ⟨wrap64 (s.f0 + x.f1), s.f1, s.f2⟩ else s
def sumsP : S85 → List S43 → List S85
 | s, [] => [s]
 | s, x :: l => s :: sumsP (sumP s x) l
def sumAt (l : List S43) (k : Nat) : S85 := (l.take k).foldl sumP z85
def sumsTo (l : List S43) (k : Nat) : List S85 := (List.range (k + 1)).map (sumAt l)
def flat85 (xs : List S85) : List Value := xs.flatMap fun x => [.int .i64 x.f0, .int .i64 x.f1, .int .i64 x.f2]
theorem flat85_length (xs : List S85) : (flat85 xs).length = xs.length * 3 := by
 induction xs with
 | nil => rfl
 | cons x xs ih => simp [flat85] at ih ⊢; omega
theorem flat85_snoc (xs : List S85) (x : S85) : flat85 (xs ++ [x]) = flat85 xs ++ [.int .i64 x.f0, .int .i64 x.f1, .int .i64 x.f2] := by simp [flat85]
theorem sumsTo_succ (l : List S43) (k : Nat) : sumsTo l (k + 1) = sumsTo l k ++ [sumAt l (k + 1)] := by
 unfold sumsTo
 rw [List.range_succ, List.map_append]
 rfl
theorem sumAt_succ (l : List S43) (k : Nat) (x : S43) (h : l[k]? = some x) : sumAt l (k + 1) = sumP (sumAt l k) x := by
 unfold sumAt
 rw [List.take_add_one, h]
 simp
theorem info85h : (Try.prog.info? 85).map (fun i => (i.zero, i.size, i.bytes)) = some (some (.agg #[(.int .i64 0), (.int .i64 0), (.int .i64 0)]), 3, 24) := by kernel_rfl
theorem sums_last (l : List S43) (k : Nat) : ∃ pre, flat85 (sumsTo l k) = pre ++ [.int .i64 (sumAt l k).f0, .int .i64 (sumAt l k).f1, .int .i64 (sumAt l k).f2] ∧ pre.length = k * 3 := by
 refine ⟨flat85 ((List.range k).map (sumAt l)), ?_, by rw [flat85_length]; simp⟩
 unfold sumsTo
 rw [List.range_succ, List.map_append]
 exact flat85_snoc _ _
theorem sums_next (l : List S43) (k : Nat) (x : S43) (h : l[k]? = some x) : flat85 (sumsTo l (k + 1)) = flat85 (sumsTo l k) ++ [.int .i64 (sumP (sumAt l k) x).f0, .int .i64 (sumP (sumAt l k) x).f1, .int .i64 (sumP (sumAt l k) x).f2] := by
 rw [sumsTo_succ, flat85_snoc, sumAt_succ l k x h]
theorem cells_new (w : World) (cs : List Value) (t : TypeId) : ∀ j u, cs[j]? = some u → (w.alloc (.cells cs.toArray t)).cell? ((⟨w.heap.size, 0, none⟩ : Addr).add j) = some u := by
 intro j u hj
 rw [add_plain]
 simp only [World.cell?, heap_alloc_new]
 simpa using hj
theorem made3 (n : Nat) : (madeCells #[.int .i64 0, .int .i64 0, .int .i64 0] ((n + 1) * 3)).toList.take (1 * 3) = [.int .i64 0, .int .i64 0, .int .i64 0] := by
 apply List.ext_getElem?
 intro j
 rw [List.getElem?_take]
 rcases j with _ | _ | _ | j
 ·simp [madeCells]
 ·have h1 : 1 < (n + 1) * 3 := by omega
  simp [madeCells, h1]
 ·have h2 : 2 < (n + 1) * 3 := by omega
  simp [madeCells, h2]
 ·rw [if_neg (by omega)]
  rfl
theorem own_apart {w : World} {base e size n : Nat} {v : Value} {xs : List Value} (h : w.ownsRow base e size v n xs) {b : Nat} {t : TypeId} {cs : Array Value} (hb : w.heap[b]? = some (.cells cs t (0, 0))) (hne : t ≠ e) : some b ≠ v.ownBlock := by
 rcases h.2 with ⟨rfl, _⟩ | ⟨g, cap, cur, rfl, _, hg, _⟩
 ·simp [Value.ownBlock]
 ·have := blk_ne hb hg hne
  simpa [Value.ownBlock] using this
set_option pp.maxSteps 3000 in
set_option maxRecDepth 100000 in
set_option maxHeartbeats 2000000 in
theorem begin_calls (A : Option Addr) (c : Nat) (l : List S43) (wd : Int) (w : World) (hl : l.length ≤ 1000000) (hA : Kd.C k43 w A l.length l) :
  Calls Try.prog 43 #[.slice A l.length c, .int .i64 wd] w fun e w' => ∃ v, e = .returned (.agg #[.slice A l.length c, .int .i64 wd, v]) ∧ w'.ownsRow w.heap.size 85 3 v (l.length + 1) (flat85 (sumsTo l l.length)) ∧ Below w.heap.size w w' := by
 obtain ⟨i0, hi, hz0, hz1, hz2⟩ := info_parts info85h
 have HA := Lib.hid hA
 obtain ⟨n, hn⟩ : ∃ n, l.length = n := ⟨_, rfl⟩
 rw [hn] at hl ⊢
 have HN := Lib.hid hn
 clear hn hA
 have hn1 : (n : Int) ≤ 1000000 := by omega
 have hmk : ∀ W : World, (Instr.makeSlice 65 (.int .i64 1) (.int .i64 ((n : Int) + 1))).run Try.prog W = .ok (.slice (some ⟨W.heap.size, 0, none⟩) 1 (n + 1)) (W.alloc (.cells (madeCells #[.int .i64 0, .int .i64 0, .int .i64 0] ((n + 1) * 3)) 85)) := fun W => by
  have hr := run_make (P := Try.prog) W 65 85 i0 _ Try.underlying65 hi hz0 .i64 .i64 1 ((n : Int) + 1) (by omega) (by omega) (by rw [hz2]; omega) (by omega)
  rw [hz1, show ((n : Int) + 1).toNat = n + 1 by omega] at hr
  exact hr
 have hrow0 : ∀ W : World, (W.alloc (.cells (madeCells #[.int .i64 0, .int .i64 0, .int .i64 0] ((n + 1) * 3)) 85)).ownsRow W.heap.size 85 3 (.slice (some ⟨W.heap.size, 0, none⟩) 1 (n + 1)) 1 [.int .i64 0, .int .i64 0, .int .i64 0] := fun W => by
  refine ⟨rfl, .inr ⟨W.heap.size, n + 1, _, rfl, Nat.le_refl _, heap_alloc_new W _, by omega, by unfold maxLen; omega, size_madeCells _ _, ?_⟩⟩
  exact made3 n
 have HR0 := Lib.hid hrow0
 clear hrow0
 go_enter Try.func43, Try.ntmps43
 go_wp2_with fail
 go_loopw [18] (fun v wr => ∃ (k : Nat) (u : Value), v = .int .i64 k ∧ k ≤ n ∧ wr.heap[w.heap.size + 1 + 1]? = some (.cells #[.slice A n c, .int .i64 wd, u] 67 (0, 0)) ∧ wr.heap[w.heap.size]? = some (.cells #[.slice none 0 0, .int .i64 0, .slice none 0 0] 67 (0, 0)) ∧
   wr.ownsRow (w.heap.size + 1) 85 3 u (k + 1) (flat85 (sumsTo l k)) ∧ Below w.heap.size w wr) (fun v _ => n - (intOf v).toNat)
 case atStart =>
  have b1 := blk_new w (.cells #[.slice none 0 0, .int .i64 0, .slice none 0 0] 67)
  have r1 := HR0.out (w.alloc (.cells #[.slice none 0 0, .int .i64 0, .slice none 0 0] 67))
  have hB1 := (((Below.refl _ w).alloc (Nat.le_refl _) (.cells #[.slice none 0 0, .int .i64 0, .slice none 0 0] 67)).alloc (by simp) (.cells (madeCells #[.int .i64 0, .int .i64 0, .int .i64 0] ((n + 1) * 3)) 85))
  have b2 := blk_alloc b1 (.cells (madeCells #[.int .i64 0, .int .i64 0, .int .i64 0] ((n + 1) * 3)) 85)
  have b3 := blk_new ((w.alloc (.cells #[.slice none 0 0, .int .i64 0, .slice none 0 0] 67)).alloc (.cells (madeCells #[.int .i64 0, .int .i64 0, .int .i64 0] ((n + 1) * 3)) 85)) (.cells #[.slice A n c, .int .i64 wd, .slice (some ⟨w.heap.size + 1, 0, none⟩) 1 (n + 1)] 67)
  simp only [World.size_alloc] at r1 b3
  exact ⟨0, _, rfl, Nat.zero_le _, b3, blk_alloc b2 _, r1.alloc _, hB1.alloc (by simp; omega) _⟩
 case round =>
  obtain ⟨k, u, rfl, hk, hF, hR, hown, hB⟩ := hrel
  by_cases hlt : k < n
  ·have hlt1 : (k : Int) < (n : Int) := by omega
   obtain ⟨ad, e1, q0, q1, q2, q3, q4⟩ := at_T43 (Kd.C_below HA.out hB) k (by omega) (by have := HN.out; omega)
   cases e1
   have hxk : l[k]? = some (rd_T43 l k) := by
    unfold rd_T43
    rw [Int.toNat_natCast, List.getD_eq_getElem?_getD, List.getElem?_eq_getElem (by have := HN.out; omega)]
    rfl
   have hnx := sums_next l k _ hxk
   obtain ⟨pre, hp, hpl⟩ := sums_last l k
   obtain ⟨g, cap, rfl⟩ := ownsRow_succ hown
   have HP := Lib.hid hp
   have HNX := Lib.hid hnx
   have HO := Lib.hid hown
   have HF := Lib.hid hF
   have HRR := Lib.hid hR
   have hca : ∀ o : Obj, (wr.alloc o).cell? ⟨w.heap.size + 1 + 1, 2, none⟩ = some (.slice (some ⟨g, 0, none⟩) (k + 1) cap) ∧ (wr.alloc o).cell? ⟨g, k * 3, none⟩ = some (.int .i64 (sumAt l k).f0) ∧ (wr.alloc o).cell? ⟨g, k * 3 + 1, none⟩ = some (.int .i64 (sumAt l k).f1) ∧ (wr.alloc o).cell? ⟨g, k * 3 + 2, none⟩ = some (.int .i64 (sumAt l k).f2) := fun o => by
    have s0 := (HO.out.alloc o).cellAt (k * 3) (by omega)
    have s1 := (HO.out.alloc o).cellAt (k * 3 + 1) (by omega)
    have s2 := (HO.out.alloc o).cellAt (k * 3 + 2) (by omega)
    rw [hp, List.getElem?_append_right (by omega), hpl, Nat.sub_self] at s0
    rw [hp, List.getElem?_append_right (by omega), hpl, show k * 3 + 1 - k * 3 = 1 by omega] at s1
    rw [hp, List.getElem?_append_right (by omega), hpl, show k * 3 + 2 - k * 3 = 2 by omega] at s2
    exact ⟨by rw [blk_cell (blk_alloc HF.out o) 2]; rfl, s0, s1, s2⟩
   clear hnx hp hpl hxk hown HP hF hR
   generalize rd_T43 l k = x at *
   generalize sumAt l k = s at *
   obtain ⟨f0, f1, f2, f3, f4⟩ := x
   obtain ⟨t0, t1, t2⟩ := s
   obtain ⟨c2, s0, s1, s2⟩ := hca (.cells #[.int .i64 f0, .int .i64 f1, .int .i64 f2, .int .i64 f3, .int .i64 f4] 43)
   simp only [Int.toNat_natCast] at q0 q1 q2 q3 q4 s0 s1 s2
   have hcb : ∀ o o' : Obj, ((wr.alloc o).alloc o').cell? ⟨w.heap.size + 1 + 1, 2, none⟩ = some (.slice (some ⟨g, 0, none⟩) (k + 1) cap) := fun o o' => by rw [blk_cell (blk_alloc (blk_alloc HF.out o) o') 2]; rfl
   by_cases h2 : f0 = 2
   ·subst h2
    go_wp2_with (at_builtin; refine wpList_append_own _ rfl _ _ 65 rfl (w.heap.size + 1) 85 i0 (.agg #[(.int .i64 0), (.int .i64 0), (.int .i64 0)]) 3 24 Try.underlying65 hi hz0 hz1 hz2 rfl (by decide) _ _ _ rfl (((HO.out.alloc _).alloc _).alloc _) _ 1 1 [.int .i64 (wrap64 (t0 + f1)), .int .i64 (wrap64 (t1 + f2)), .int .i64 (wrap64 (t2 + f3))] rfl rfl ?e1 ?e2 ?e3 ?e4 ?e5 ?e6)
    try (case e1 =>
     have := cells_new ((wr.alloc (.cells #[.int .i64 f0, .int .i64 f1, .int .i64 f2, .int .i64 f3, .int .i64 f4] 43)).alloc (.cells #[.int .i64 (wrap64 (t0 + f1)), .int .i64 (wrap64 (t1 + f2)), .int .i64 (wrap64 (t2 + f3))] 85)) [.int .i64 (wrap64 (t0 + f1)), .int .i64 (wrap64 (t1 + f2)), .int .i64 (wrap64 (t2 + f3))] 85
     simp only [World.size_alloc] at this
     exact this)
    case e2 => simp [Value.oneCell']
    case e3 => unfold maxLen; omega
    case e4 => omega
    case e5 => have := hB.size; simp; omega
    case e6 =>
     intro v' w1 hown' hgrow _
     obtain ⟨A', c', rfl⟩ := own_slice hown'
     have hF1 := blk_grown (blk_alloc (blk_alloc (blk_alloc HF.out _) _) _) hgrow (own_apart HO.out HF.out (by decide))
     have hR1 := blk_grown (blk_alloc (blk_alloc (blk_alloc HRR.out _) _) _) hgrow (own_apart HO.out HRR.out (by decide))
     have hBs := hB.size
     have hB1 : Below w.heap.size w w1 := (((hB.alloc hBs _).alloc (by simp; omega) _).alloc (by simp; omega) _).grown hgrow (by simp; omega) fun j hj => (by have := own_base HO.out j hj; omega)
     have hne1 := own_apart hown' hF1 (by decide)
     have hnx : flat85 (sumsTo l (k + 1)) = flat85 (sumsTo l k) ++ [.int .i64 (wrap64 (t0 + f1)), .int .i64 (wrap64 (t1 + f2)), .int .i64 (wrap64 (t2 + f3))] := by
      refine HNX.out.trans ?_
      simp [sumP]
     rw [← hnx] at hown'
     have c0 := blk_cell hF1 2
     simp only [List.getElem?_toArray, List.getElem?_cons_succ, List.getElem?_cons_zero] at c0
     have z0 := blk_frozen hF1 2
     have HF1 := Lib.hid hF1
     have HR1 := Lib.hid hR1
     have HO1 := Lib.hid hown'
     have HN1 := Lib.hid hne1
     clear hF1 hR1 hown' hne1 hgrow q0 q1 q2 q3 q4 s0 s1 s2 c2 hca hcb hnx
     go_wp2
     go_roundw
     case rel => exact ⟨k + 1, .slice A' (k + 1 + 1) c', by go_num, by omega, blk_put HF1.out 2 _ rfl, blk_far HR1.out (by simp; omega) _, own_setCell HO1.out HN1.out _, hB1.setCell (by simp; omega) _⟩
     case measure => simp [intOf]; omega
   ·by_cases h1 : f0 = 1
    ·subst h1
     go_wp2_with (at_builtin; refine wpList_append_own _ rfl _ _ 65 rfl (w.heap.size + 1) 85 i0 (.agg #[(.int .i64 0), (.int .i64 0), (.int .i64 0)]) 3 24 Try.underlying65 hi hz0 hz1 hz2 rfl (by decide) _ _ _ rfl (((HO.out.alloc _).alloc _).alloc _) _ 1 1 [.int .i64 (wrap64 (t0 + f1)), .int .i64 (t1), .int .i64 (t2)] rfl rfl ?x1 ?x2 ?x3 ?x4 ?x5 ?x6)
     try (case x1 =>
      have := cells_new ((wr.alloc (.cells #[.int .i64 f0, .int .i64 f1, .int .i64 f2, .int .i64 f3, .int .i64 f4] 43)).alloc (.cells #[.int .i64 (wrap64 (t0 + f1)), .int .i64 (t1), .int .i64 (t2)] 85)) [.int .i64 (wrap64 (t0 + f1)), .int .i64 (t1), .int .i64 (t2)] 85
      simp only [World.size_alloc] at this
      exact this)
     case x2 => simp [Value.oneCell']
     case x3 => unfold maxLen; omega
     case x4 => omega
     case x5 => have := hB.size; simp; omega
     case x6 =>
      intro v' w1 hown' hgrow _
      obtain ⟨A', c', rfl⟩ := own_slice hown'
      have hF1 := blk_grown (blk_alloc (blk_alloc (blk_alloc HF.out _) _) _) hgrow (own_apart HO.out HF.out (by decide))
      have hR1 := blk_grown (blk_alloc (blk_alloc (blk_alloc HRR.out _) _) _) hgrow (own_apart HO.out HRR.out (by decide))
      have hBs := hB.size
      have hB1 : Below w.heap.size w w1 := (((hB.alloc hBs _).alloc (by simp; omega) _).alloc (by simp; omega) _).grown hgrow (by simp; omega) fun j hj => (by have := own_base HO.out j hj; omega)
      have hne1 := own_apart hown' hF1 (by decide)
      have hnx : flat85 (sumsTo l (k + 1)) = flat85 (sumsTo l k) ++ [.int .i64 (wrap64 (t0 + f1)), .int .i64 (t1), .int .i64 (t2)] := by
       refine HNX.out.trans ?_
       simp [sumP]
      rw [← hnx] at hown'
      have c0 := blk_cell hF1 2
      simp only [List.getElem?_toArray, List.getElem?_cons_succ, List.getElem?_cons_zero] at c0
      have z0 := blk_frozen hF1 2
      have HF1 := Lib.hid hF1
      have HR1 := Lib.hid hR1
      have HO1 := Lib.hid hown'
      have HN1 := Lib.hid hne1
      clear hF1 hR1 hown' hne1 hgrow q0 q1 q2 q3 q4 s0 s1 s2 c2 hca hcb hnx
      go_wp2
      go_roundw
      case rel => exact ⟨k + 1, .slice A' (k + 1 + 1) c', by go_num, by omega, blk_put HF1.out 2 _ rfl, blk_far HR1.out (by simp; omega) _, own_setCell HO1.out HN1.out _, hB1.setCell (by simp; omega) _⟩
      case measure => simp [intOf]; omega
    ·by_cases h4 : f0 = 4
     ·subst h4
      go_wp2_with (at_builtin; refine wpList_append_own _ rfl _ _ 65 rfl (w.heap.size + 1) 85 i0 (.agg #[(.int .i64 0), (.int .i64 0), (.int .i64 0)]) 3 24 Try.underlying65 hi hz0 hz1 hz2 rfl (by decide) _ _ _ rfl (((HO.out.alloc _).alloc _).alloc _) _ 1 1 [.int .i64 (wrap64 (t0 + f1)), .int .i64 (t1), .int .i64 (t2)] rfl rfl ?y1 ?y2 ?y3 ?y4 ?y5 ?y6)
      try (case y1 =>
       have := cells_new ((wr.alloc (.cells #[.int .i64 f0, .int .i64 f1, .int .i64 f2, .int .i64 f3, .int .i64 f4] 43)).alloc (.cells #[.int .i64 (wrap64 (t0 + f1)), .int .i64 (t1), .int .i64 (t2)] 85)) [.int .i64 (wrap64 (t0 + f1)), .int .i64 (t1), .int .i64 (t2)] 85
       simp only [World.size_alloc] at this
       exact this)
      case y2 => simp [Value.oneCell']
      case y3 => unfold maxLen; omega
      case y4 => omega
      case y5 => have := hB.size; simp; omega
      case y6 =>
       intro v' w1 hown' hgrow _
       obtain ⟨A', c', rfl⟩ := own_slice hown'
       have hF1 := blk_grown (blk_alloc (blk_alloc (blk_alloc HF.out _) _) _) hgrow (own_apart HO.out HF.out (by decide))
       have hR1 := blk_grown (blk_alloc (blk_alloc (blk_alloc HRR.out _) _) _) hgrow (own_apart HO.out HRR.out (by decide))
       have hBs := hB.size
       have hB1 : Below w.heap.size w w1 := (((hB.alloc hBs _).alloc (by simp; omega) _).alloc (by simp; omega) _).grown hgrow (by simp; omega) fun j hj => (by have := own_base HO.out j hj; omega)
       have hne1 := own_apart hown' hF1 (by decide)
       have hnx : flat85 (sumsTo l (k + 1)) = flat85 (sumsTo l k) ++ [.int .i64 (wrap64 (t0 + f1)), .int .i64 (t1), .int .i64 (t2)] := by
        refine HNX.out.trans ?_
        simp [sumP]
       rw [← hnx] at hown'
       have c0 := blk_cell hF1 2
       simp only [List.getElem?_toArray, List.getElem?_cons_succ, List.getElem?_cons_zero] at c0
       have z0 := blk_frozen hF1 2
       have HF1 := Lib.hid hF1
       have HR1 := Lib.hid hR1
       have HO1 := Lib.hid hown'
       have HN1 := Lib.hid hne1
       clear hF1 hR1 hown' hne1 hgrow q0 q1 q2 q3 q4 s0 s1 s2 c2 hca hcb hnx
       go_wp2
       go_roundw
       case rel => exact ⟨k + 1, .slice A' (k + 1 + 1) c', by go_num, by omega, blk_put HF1.out 2 _ rfl, blk_far HR1.out (by simp; omega) _, own_setCell HO1.out HN1.out _, hB1.setCell (by simp; omega) _⟩
       case measure => simp [intOf]; omega
     ·have g2 : (f0 == 2) = false := beq_eq_false_iff_ne.2 h2
      have g1 : (f0 == 1) = false := beq_eq_false_iff_ne.2 h1
      have g4 : (f0 == 4) = false := beq_eq_false_iff_ne.2 h4
      go_wp2_with (at_builtin; refine wpList_append_own _ rfl _ _ 65 rfl (w.heap.size + 1) 85 i0 (.agg #[(.int .i64 0), (.int .i64 0), (.int .i64 0)]) 3 24 Try.underlying65 hi hz0 hz1 hz2 rfl (by decide) _ _ _ rfl (((HO.out.alloc _).alloc _).alloc _) _ 1 1 [.int .i64 (t0), .int .i64 (t1), .int .i64 (t2)] rfl rfl ?z1 ?z2 ?z3 ?z4 ?z5 ?z6)
      try (case z1 =>
       have := cells_new ((wr.alloc (.cells #[.int .i64 f0, .int .i64 f1, .int .i64 f2, .int .i64 f3, .int .i64 f4] 43)).alloc (.cells #[.int .i64 (t0), .int .i64 (t1), .int .i64 (t2)] 85)) [.int .i64 (t0), .int .i64 (t1), .int .i64 (t2)] 85
       simp only [World.size_alloc] at this
       exact this)
      case z2 => simp [Value.oneCell']
      case z3 => unfold maxLen; omega
      case z4 => omega
      case z5 => have := hB.size; simp; omega
      case z6 =>
       intro v' w1 hown' hgrow _
       obtain ⟨A', c', rfl⟩ := own_slice hown'
       have hF1 := blk_grown (blk_alloc (blk_alloc (blk_alloc HF.out _) _) _) hgrow (own_apart HO.out HF.out (by decide))
       have hR1 := blk_grown (blk_alloc (blk_alloc (blk_alloc HRR.out _) _) _) hgrow (own_apart HO.out HRR.out (by decide))
       have hBs := hB.size
       have hB1 : Below w.heap.size w w1 := (((hB.alloc hBs _).alloc (by simp; omega) _).alloc (by simp; omega) _).grown hgrow (by simp; omega) fun j hj => (by have := own_base HO.out j hj; omega)
       have hne1 := own_apart hown' hF1 (by decide)
       have hnx : flat85 (sumsTo l (k + 1)) = flat85 (sumsTo l k) ++ [.int .i64 (t0), .int .i64 (t1), .int .i64 (t2)] := by
        refine HNX.out.trans ?_
        simp [sumP, h1, h2, h4]
       rw [← hnx] at hown'
       have c0 := blk_cell hF1 2
       simp only [List.getElem?_toArray, List.getElem?_cons_succ, List.getElem?_cons_zero] at c0
       have z0 := blk_frozen hF1 2
       have HF1 := Lib.hid hF1
       have HR1 := Lib.hid hR1
       have HO1 := Lib.hid hown'
       have HN1 := Lib.hid hne1
       clear hF1 hR1 hown' hne1 hgrow q0 q1 q2 q3 q4 s0 s1 s2 c2 hca hcb hnx
       go_wp2
       go_roundw
       case rel => exact ⟨k + 1, .slice A' (k + 1 + 1) c', by go_num, by omega, blk_put HF1.out 2 _ rfl, blk_far HR1.out (by simp; omega) _, own_setCell HO1.out HN1.out _, hB1.setCell (by simp; omega) _⟩
       case measure => simp [intOf]; omega
  ·obtain rfl : k = n := by omega
   have hlt1 : ¬ (k : Int) < (k : Int) := by omega
   have c0 := blk_cell hF 0
   have c1 := blk_cell hF 1
   have c2 := blk_cell hF 2
   have d0 := blk_cell hR 0
   have d1 := blk_cell hR 1
   have d2 := blk_cell hR 2
   simp only [List.getElem?_toArray, List.getElem?_cons_succ, List.getElem?_cons_zero] at c0 c1 c2 d0 d1 d2
   have f0 := blk_frozen hR 0
   have f1 := blk_frozen hR 1
   have f2 := blk_frozen hR 2
   have HO := Lib.hid hown
   have HR := Lib.hid hR
   obtain ⟨A2, c2', rfl⟩ := own_slice hown
   clear hown hmk hR hF
   go_wp2
   have n0 : some w.heap.size ≠ (Value.slice A2 (k + 1) c2').ownBlock := fun e => by have := own_base HO.out _ e.symm; omega
   have hro := own_setCell (own_setCell (own_setCell HO.out (p := ⟨w.heap.size, 0, none⟩) n0 (.slice A k c)) (p := ⟨w.heap.size, 1, none⟩) n0 (.int .i64 wd)) (p := ⟨w.heap.size, 2, none⟩) n0 (.slice A2 (k + 1) c2')
   have hbb := ((hB.setCell (show w.heap.size ≤ w.heap.size from Nat.le_refl _) (.slice A k c) (p := ⟨w.heap.size, 0, none⟩)).setCell (show w.heap.size ≤ w.heap.size from Nat.le_refl _) (.int .i64 wd) (p := ⟨w.heap.size, 1, none⟩)).setCell (show w.heap.size ≤ w.heap.size from Nat.le_refl _) (.slice A2 (k + 1) c2') (p := ⟨w.heap.size, 2, none⟩)
   have hr2 := blk_set (blk_set (blk_set HR.out 0 (.slice A k c)) 1 (.int .i64 wd)) 2 (.slice A2 (k + 1) c2')
   generalize (((wr.setCell { block := w.heap.size, off := 0 } (Value.slice A k c)).setCell { block := w.heap.size, off := 1 } (Value.int IntKind.i64 wd)).setCell { block := w.heap.size, off := 2 } (Value.slice A2 (k + 1) c2')) = W2 at *
   have z0 := blk_cell hr2 0
   have z1 := blk_cell hr2 1
   have z2 := blk_cell hr2 2
   simp at z0 z1 z2
   refine bodyPost_ret (v := .agg #[.slice A k c, .int .i64 wd, .slice A2 (k + 1) c2']) ?_ rfl ⟨_, rfl, own_weaken hro (by omega), hbb⟩
   simp [results, Try.results43, go_sem, z0, z1, z2]
def showP (toks : List S101) (x : S43) : Int × Bool :=
 if x.f0 = 3 then (45, true) else if 0 ≤ x.f4 ∧ x.f4 < (toks.length : Int) then
  (if x.f0 = 4 then (42, decide ((rd_T101 toks x.f4).f0 = 2) && (rd_T101 toks x.f4).f1 == 110) else ((rd_T101 toks x.f4).f1, (rd_T101 toks x.f4).f0 == 1)) else (0, false)
theorem shows_ev (toks : List S101) (x : S43) : lines_shows.f 1 toks x.f0 x.f1 x.f2 x.f3 x.f4 = some (showP toks x) := by
 unfold lines_shows.f showP
 by_cases h3 : x.f0 = 3
 ·rw [if_pos h3, if_pos h3]
 ·rw [if_neg h3, if_neg h3]
  by_cases h0 : x.f4 < 0
  ·rw [if_pos h0, if_neg (by omega)]
   rfl
  ·rw [if_neg h0]
   by_cases h1 : x.f4 < (toks.length : Int)
   ·rw [if_pos (⟨by omega, h1⟩ : _ ∧ _), show decide (x.f4 ≥ (toks.length : Int)) = false by simp; omega]
    rw [lines_shows.j0.eq_2, if_neg (by simp), if_pos (by omega), if_pos h1]
    by_cases h4 : x.f0 = 4
    ·rw [if_pos h4, if_pos h4]
     by_cases h2 : (rd_T101 toks x.f4).f0 = 2
     ·rw [if_pos h2]; simp [h2]
     ·rw [if_neg h2]; simp [h2]
    ·rw [if_neg h4, if_neg h4]
   ·rw [if_neg (by omega), show decide (x.f4 ≥ (toks.length : Int)) = true by simp; omega]
    rw [lines_shows.j0.eq_2, if_pos rfl]
def whatP (k : Int) : Int := if k = 3 then 1 else if k = 4 then 2 else 0
def spotP (toks : List S101) (x : S43) (at_ : Int) : S57 := ⟨at_, (showP toks x).1, whatP x.f0, x.f4⟩
def flat57 (xs : List S57) : List Value := xs.flatMap fun x => [.int .i64 x.f0, .int .u8 x.f1, .int .i64 x.f2, .int .i64 x.f3]
theorem flat57_length (xs : List S57) : (flat57 xs).length = xs.length * 4 := by
 induction xs with
 | nil => rfl
 | cons x xs ih => simp [flat57] at ih ⊢; omega
theorem flat57_snoc (xs : List S57) (x : S57) : flat57 (xs ++ [x]) = flat57 xs ++ [.int .i64 x.f0, .int .u8 x.f1, .int .i64 x.f2, .int .i64 x.f3] := by simp [flat57]
structure KeepS (w w' : World) (g : Nat) (v : Value) : Prop where
 os : w'.os = w.os
 tape : w'.tape = w.tape
 output : w'.output = w.output
 size : w.heap.size ≤ w'.heap.size
 block : ∀ i, i < w.heap.size → i ≠ g → some i ≠ v.ownBlock → w'.heap[i]? = w.heap[i]?
set_option maxRecDepth 100000 in
set_option maxHeartbeats 2000000 in
theorem show_calls (At : Option Addr) (ct : Nat) (toks : List S101) (g base : Nat) (v : Value) (sp : List S57) (wd bits : Int) (x : S43) (d : Int) (w : World)
  (hct : toks.length ≤ ct) (hT : Kd.C k101 w At toks.length toks) (hg : w.heap[g]? = some (.cells #[v, .int .i64 wd, .int .i64 bits, .slice At toks.length ct] 120 (0, 0)))
  (hown : w.ownsRow base 57 4 v sp.length (flat57 sp)) (hbase : base ≤ w.heap.size) (hn : sp.length ≤ 1000000) (hk : x.f0 = 1 ∨ x.f0 = 2 ∨ x.f0 = 3 ∨ x.f0 = 4) :
  Calls Try.prog 85 #[.pointer (some ⟨g, 0, none⟩), .agg #[.int .i64 x.f0, .int .i64 x.f1, .int .i64 x.f2, .int .i64 x.f3, .int .i64 x.f4], .int .i64 d] w fun e w' => e = .returned (.tuple #[]) ∧ ∃ v',
   w'.heap[g]? = some (.cells #[v', .int .i64 (wrap64 (wd + d)), .int .i64 bits, .slice At toks.length ct] 120 (0, 0)) ∧ w'.ownsRow base 57 4 v' (sp.length + 1) (flat57 (sp ++ [spotP toks x wd])) ∧ KeepS w w' g v ∧ (v'.ownBlock = v.ownBlock ∨ ∃ j, v'.ownBlock = some j ∧ w.heap.size ≤ j) := by
 obtain ⟨⟨c, b⟩, hcb⟩ : ∃ p, showP toks x = p := ⟨_, rfl⟩
 have hev := shows_ev toks x
 rw [hcb] at hev
 have hsh := fun W hW => lines_shows.calls 1 At ct toks x.f0 x.f1 x.f2 x.f3 x.f4 c b W (Kd.C_below hT hW) hct hev
 have hspot : spotP toks x wd = ⟨wd, c, whatP x.f0, x.f4⟩ := by unfold spotP; rw [hcb]
 rw [hspot]
 have HSH := Lib.hid hsh
 clear hsh hev hspot hcb
 have hgl := blk_lt hg
 have hne := own_apart hown hg (by decide)
 obtain ⟨f0, f1, f2, f3, f4⟩ := x
 have hx := blk_new w (.cells #[.int .i64 f0, .int .i64 f1, .int .i64 f2, .int .i64 f3, .int .i64 f4] 43)
 have hg1 := blk_alloc hg (.cells #[.int .i64 f0, .int .i64 f1, .int .i64 f2, .int .i64 f3, .int .i64 f4] 43)
 have hown1 := hown.alloc (.cells #[.int .i64 f0, .int .i64 f1, .int .i64 f2, .int .i64 f3, .int .i64 f4] 43)
 have hB1 := (Below.refl w.heap.size w).alloc (Nat.le_refl _) (.cells #[.int .i64 f0, .int .i64 f1, .int .i64 f2, .int .i64 f3, .int .i64 f4] 43)
 obtain ⟨w1, hw1⟩ : ∃ w1, w.alloc (.cells #[.int .i64 f0, .int .i64 f1, .int .i64 f2, .int .i64 f3, .int .i64 f4] 43) = w1 := ⟨_, rfl⟩
 rw [hw1] at hx hg1 hown1 hB1
 have hsz : w1.heap.size = w.heap.size + 1 := by rw [← hw1]; simp
 have HX := Lib.hid hx
 have HG1 := Lib.hid hg1
 have HB1 := Lib.hid hB1
 have HOW1 := Lib.hid hown1
 have cx0 := blk_cell hx 0
 simp only [List.getElem?_toArray, List.getElem?_cons_zero] at cx0
 have hix : ∀ W : World, (Instr.index 127 (.agg #[.int .i64 0, .int .i64 0, .int .i64 0, .int .i64 1, .int .i64 2]) (.int .i64 f0)).run Try.prog W = .ok (.int .i64 (whatP f0)) W := fun W => by
  rcases hk with h | h | h | h <;> (simp only at h; subst h; rfl)
 clear hx hg1 hB1 hown1 hown hg hT
 generalize whatP f0 = wh at *
 go_enter Try.func85, Try.ntmps85
 go_wp2_with fail
 clear hix hk cx0 hw1
 refine Go.Det.region_all (fun W => Below w1.heap.size w1 W) (by kernel_rfl) (by kernel_rfl) (below_drew1 (Below.refl _ _)) ?_
 repeat
  apply Go.Det.seqW_cons
  focus
   intro W hS
   replace hS : Below w1.heap.size w1 W := hS
   have x0 := blk_cell (blk_below HX.out hS) 0
   have x1 := blk_cell (blk_below HX.out hS) 1
   have x2 := blk_cell (blk_below HX.out hS) 2
   have x3 := blk_cell (blk_below HX.out hS) 3
   have x4 := blk_cell (blk_below HX.out hS) 4
   have xT := blk_cell (blk_below HG1.out hS) 3
   simp only [List.getElem?_toArray, List.getElem?_cons_succ, List.getElem?_cons_zero] at x0 x1 x2 x3 x4 xT
   go_wp2_with (refine (HSH.out _ (HB1.out.trans (hS.mono (by omega)))).mono ?_; rintro _ W2 ⟨rfl, hb⟩; replace hS := hS.trans (hb.mono hS.size))
   exact Go.Det.AtEnd.mk hS
 refine Go.Det.seqW_nil ?_
 intro W1 hS
 replace hS : Below w1.heap.size w1 W1 := hS
 have hg2 := blk_below HG1.out hS
 have hx2 := blk_below HX.out hS
 have ho2 := pw_own_below HOW1.out hS
 have hB2 : Below w.heap.size w W1 := HB1.out.trans (hS.mono (by omega))
 have hs2 := hS.size
 simp only [Exit.then]
 go_wp2_with fail
 obtain ⟨W2, hW2⟩ : ∃ W2, W1.drew = W2 := ⟨_, rfl⟩
 have hg3 : W2.heap[g]? = some (.cells #[v, .int .i64 wd, .int .i64 bits, .slice At toks.length ct] 120 (0, 0)) := by rw [← hW2]; exact hg2
 have hx3 : W2.heap[w.heap.size]? = some (.cells #[.int .i64 f0, .int .i64 f1, .int .i64 f2, .int .i64 f3, .int .i64 f4] 43 (0, 0)) := by rw [← hW2]; exact hx2
 have ho3 : W2.ownsRow base 57 4 v sp.length (flat57 sp) := by rw [← hW2]; exact own_drew ho2
 have hB3 : Below w.heap.size w W2 := by rw [← hW2]; exact below_drew1 hB2
 have hs3 : w.heap.size < W2.heap.size := blk_lt hx3
 clear hg2 hx2 ho2 hB2 hS hs2
 have HG3 := Lib.hid hg3
 have HX3 := Lib.hid hx3
 have HO3 := Lib.hid ho3
 have HB3 := Lib.hid hB3
 clear hg3 hx3 ho3 hB3
 refine Go.Mix.region_mix' (fun b W => W = (bif b then W2.alloc (.cells #[.int .i64 wd, .int .u8 c, .int .i64 wh, .int .i64 f4] 57) else W2)) 16 17 [0] (by kernel_rfl) (by kernel_rfl) (fun _ _ _ _ _ h => h) hW2 ?_
 clear hW2
 refine Go.Mix.seqE_cons (t' := #[_, _, _, _, _, _, _, _, _, _, _, _, _, _, _, _, _, _, _, _, _, _, _, _, _, _, _, _, _, _, _, _, _, _, _, _, _, _, _, _, _, _, _, _, _, _, _, _, _, _, _, _, _]) _ (.pointer (some ⟨g, 0, none⟩)) rfl rfl (fun w' => rfl) rfl ?_
 refine Go.Mix.seqE_nil ?_
 refine Go.Mix.seqM_skip (by rfl) ?_
 repeat
  apply Go.Mix.seqM_cons (by rfl) (by rfl)
  focus
   intro b W hS
   have hB : Below W2.heap.size W2 W := by
    rw [hS]
    cases b
    ·exact Below.refl _ _
    ·exact (Below.refl _ _).alloc (Nat.le_refl _) _
   have x4 := blk_cell (blk_below HX3.out hB) 4
   have x0 := blk_cell (blk_below HG3.out hB) 0
   have x1 := blk_cell (blk_below HG3.out hB) 1
   simp only [List.getElem?_toArray, List.getElem?_cons_succ, List.getElem?_cons_zero] at x0 x1 x4
   have HS := Lib.hid hS
   clear hS hB
   go_wp2
   exact Go.Det.AtEnd.mk HS.out
 apply Go.Mix.seqM_main (by rfl)
 focus
  intro W hS
  obtain rfl : W = W2 := hS
  go_wp2
  exact Go.Det.AtEnd.mk rfl
 refine Go.Mix.seqM_nil ?_
 intro W3 hW3
 obtain rfl : W3 = W2.alloc (.cells #[.int .i64 wd, .int .u8 c, .int .i64 wh, .int .i64 f4] 57) := hW3
 simp only [List.drop_succ_cons, List.drop_zero]
 obtain ⟨i0, hi, hz0, hz1, hz2⟩ := info_parts info57
 go_wp2_with (at_builtin; refine wpList_append_own_at _ rfl _ _ 53 rfl base 57 i0 (.agg #[(.int .i64 0), (.int .u8 0), (.int .i64 0), (.int .i64 0)]) 4 32 Try.underlying53 hi hz0 hz1 hz2 rfl (by decide) _ _ _ rfl (HO3.out.alloc _) _ 1 1 [.int .i64 wd, .int .u8 c, .int .i64 wh, .int .i64 f4] rfl rfl ?e1 ?e2 ?e3 ?e4 ?e5 ?e6)
 case e1 => exact cells_new W2 [.int .i64 wd, .int .u8 c, .int .i64 wh, .int .i64 f4] 57
 case e2 => simp [Value.oneCell']
 case e3 => unfold maxLen; omega
 case e4 => omega
 case e5 => simp; omega
 case e6 =>
  intro v' W4 hown' hgrow _ hat
  obtain ⟨A', c', rfl⟩ := own_slice hown'
  have hg4 := blk_grown (blk_alloc HG3.out (.cells #[.int .i64 wd, .int .u8 c, .int .i64 wh, .int .i64 f4] 57)) hgrow hne
  have hgne := own_apart hown' hg4 (by decide)
  have e0 := blk_cell hg4 0
  have e1 := blk_cell hg4 1
  have z0 := blk_frozen hg4 0
  have z1 := blk_frozen hg4 1
  simp only [List.getElem?_toArray, List.getElem?_cons_succ, List.getElem?_cons_zero] at e0 e1
  have hblk := blk_set (blk_set hg4 0 (.slice A' (sp.length + 1) c')) 1 (.int .i64 (wrap64 (wd + d)))
  have hrow := own_setCell (own_setCell hown' (p := ⟨g, 0, none⟩) hgne (.slice A' (sp.length + 1) c')) (p := ⟨g, 1, none⟩) hgne (.int .i64 (wrap64 (wd + d)))
  have hkeep : KeepS w ((W4.setCell ⟨g, 0, none⟩ (.slice A' (sp.length + 1) c')).setCell ⟨g, 1, none⟩ (.int .i64 (wrap64 (wd + d)))) g v := by
   have hB := HB3.out
   refine ⟨hgrow.os.trans hB.os, hgrow.tape.trans hB.tape, hgrow.output.trans hB.output, ?_, fun i hi h1 h2 => ?_⟩
   ·have := hgrow.size
    have := hB.size
    simp [World.setCell] at *
    omega
   ·rw [Below.heap_setCell _ _ _ _ h1, Below.heap_setCell _ _ _ _ h1, hgrow.block i (by simp; omega) h2, Below.heap_alloc _ _ _ (by omega)]
    exact hB.block i hi
  have hat' : (Value.slice A' (sp.length + 1) c').ownBlock = v.ownBlock ∨ ∃ j, (Value.slice A' (sp.length + 1) c').ownBlock = some j ∧ w.heap.size ≤ j := hat.imp id fun h => ⟨_, h, by omega⟩
  rw [← flat57_snoc sp ⟨wd, c, wh, f4⟩] at hrow
  have H1 := Lib.hid hblk
  have H2 := Lib.hid hrow
  have H3 := Lib.hid hkeep
  have H4 := Lib.hid hat'
  clear hblk hrow hkeep hat' hat hown' hgrow hgne hg4 hne
  go_wp2
  refine bodyPost_end (results_none rfl _ _ _) rfl ?_
  exact ⟨rfl, _, H1.out, H2.out, H3.out, H4.out⟩
end Go.Proofs.Ytbddfnmhhmkfkaa.Pr
namespace Go.Proofs.Ytbddfnmhhmkfkaa.Pr
set_option linter.unusedVariables false
set_option linter.unusedSimpArgs false
open Go.RowKit Go.Proofs.YtbddfnmhhmkfkaaW.PrintWords
structure SetG where
 r : Nat
 s : Nat
 t : Nat
 a : Nat
 x : Nat
 h : Nat
structure SetG.Ok (G : SetG) (n B : Nat) : Prop where
 lo : n ≤ G.r ∧ n ≤ G.s ∧ n ≤ G.t ∧ n ≤ G.a ∧ n ≤ G.x ∧ n ≤ G.h
 hi : G.r < B ∧ G.s < B ∧ G.t < B ∧ G.a < B ∧ G.x < B ∧ G.h < B
 nh : G.r ≠ G.h ∧ G.s ≠ G.h ∧ G.t ≠ G.h ∧ G.a ≠ G.h ∧ G.x ≠ G.h
 nx : G.r ≠ G.x ∧ G.s ≠ G.x ∧ G.t ≠ G.x ∧ G.a ≠ G.x
structure SetI (w W : World) (B : Nat) (G : SetG) (f : Nat) (At : Option Addr) (nt ct : Nat) (all slack ahead width : Int) (sp : List S57) (v : Value) : Prop where
 hS : W.heap[G.s]? = some (.cells #[.int .i64 slack] 3 (0, 0))
 hT : W.heap[G.t]? = some (.cells #[.func (.func f) #[] #[]] 118 (0, 0))
 hA : W.heap[G.a]? = some (.cells #[.int .i64 all] 3 (0, 0))
 hH : W.heap[G.h]? = some (.cells #[.int .i64 ahead] 3 (0, 0))
 hX : W.heap[G.x]? = some (.cells #[v, .int .i64 width, .int .i64 0, .slice At nt ct] 120 (0, 0))
 hR : W.heap[G.r]? = some (.cells #[.slice none 0 0, .int .i64 0, .int .i64 0] 55 (0, 0))
 own : W.ownsRow B 57 4 v sp.length (flat57 sp)
 le : B ≤ W.heap.size
 hB : Below w.heap.size w W
theorem SetI.below {w W W' : World} {B : Nat} {G : SetG} {f : Nat} {At : Option Addr} {nt ct : Nat} {all slack ahead width : Int} {sp : List S57} {v : Value} (h : SetI w W B G f At nt ct all slack ahead width sp v) (hb : Below W.heap.size W W') : SetI w W' B G f At nt ct all slack ahead width sp v :=
 ⟨blk_below h.hS hb, blk_below h.hT hb, blk_below h.hA hb, blk_below h.hH hb, blk_below h.hX hb, blk_below h.hR hb, pw_own_below h.own hb, Nat.le_trans h.le hb.size, h.hB.trans (hb.mono h.hB.size)⟩
theorem SetI.setH {w W : World} {B : Nat} {G : SetG} {f : Nat} {At : Option Addr} {nt ct : Nat} {all slack ahead width : Int} {sp : List S57} {v : Value} (g : G.Ok w.heap.size B) (h : SetI w W B G f At nt ct all slack ahead width sp v) (u : Int) : SetI w (W.setCell ⟨G.h, 0, none⟩ (.int .i64 u)) B G f At nt ct all slack u width sp v :=
 ⟨blk_far h.hS (p := ⟨G.h, 0, none⟩) g.nh.2.1 _, blk_far h.hT (p := ⟨G.h, 0, none⟩) g.nh.2.2.1 _, blk_far h.hA (p := ⟨G.h, 0, none⟩) g.nh.2.2.2.1 _, blk_put h.hH 0 _ rfl, blk_far h.hX (p := ⟨G.h, 0, none⟩) g.nh.2.2.2.2 _, blk_far h.hR (p := ⟨G.h, 0, none⟩) g.nh.1 _,
  ownsRow_setCell_below h.own (a := ⟨G.h, 0, none⟩) g.hi.2.2.2.2.2 _, by simpa [World.setCell] using h.le, h.hB.setCell (p := ⟨G.h, 0, none⟩) g.lo.2.2.2.2.2 _⟩
def aheadP (all a t : Int) : Int := if all = 0 then a else wrap64 (a + t)
def partP (s all a t : Int) : Int := if all = 0 then 0 else shareP s all a t
theorem set_share {w W : World} {B : Nat} {G : SetG} {f : Nat} {T : S43 → Int} {At : Option Addr} {nt ct : Nat} {all slack ahead width : Int} {sp : List S57} {v : Value} (HT : Tells f T) (g : G.Ok w.heap.size B) (h : SetI w W B G f At nt ct all slack ahead width sp v) (x : S43) :
  Calls Try.prog 84 #[.agg #[.int .i64 x.f0, .int .i64 x.f1, .int .i64 x.f2, .int .i64 x.f3, .int .i64 x.f4], .pointer (some ⟨G.a, 0, none⟩), .pointer (some ⟨G.s, 0, none⟩), .pointer (some ⟨G.h, 0, none⟩), .pointer (some ⟨G.t, 0, none⟩)] W fun e W' =>
   e = .returned (.int .i64 (partP slack all ahead (T x))) ∧ SetI w W' B G f At nt ct all slack (aheadP all ahead (T x)) width sp v ∧ ∀ (i : Nat) (o : Obj), i ≠ G.h → W.heap[i]? = some o → W'.heap[i]? = some o := by
 unfold partP aheadP
 by_cases h0 : all = 0
 ·subst h0
  rw [if_pos rfl, if_pos rfl]
  refine (share_none x G.a G.s G.h G.t W h.hA).mono ?_
  rintro _ W' ⟨rfl, hb⟩
  exact ⟨rfl, h.below hb, fun i o _ ho => blk_below ho hb⟩
 ·rw [if_neg h0, if_neg h0]
  refine (share_some f T HT x all slack ahead G.a G.s G.h G.t W h0 h.hA h.hS h.hH h.hT g.nh.2.2.2.1 g.nh.2.1 g.nh.2.2.1).mono ?_
  rintro _ W' ⟨rfl, hb⟩
  have hb' : Below (W.setCell ⟨G.h, 0, none⟩ (.int .i64 (wrap64 (ahead + T x)))).heap.size (W.setCell ⟨G.h, 0, none⟩ (.int .i64 (wrap64 (ahead + T x)))) W' := by simpa [World.setCell] using hb
  exact ⟨rfl, (h.setH g _).below hb', fun i o hi ho => blk_below ((Below.heap_setCell _ ⟨G.h, 0, none⟩ _ i hi).trans ho) hb'⟩
theorem set_show {w W : World} {B : Nat} {G : SetG} {f : Nat} {At : Option Addr} {ct : Nat} {toks : List S101} {all slack ahead width : Int} {sp : List S57} {v : Value} (g : G.Ok w.heap.size B) (hct : toks.length ≤ ct) (hT : Kd.C k101 w At toks.length toks) (h : SetI w W B G f At toks.length ct all slack ahead width sp v) (hn : sp.length ≤ 1000000) (x : S43) (d : Int) (hk : x.f0 = 1 ∨ x.f0 = 2 ∨ x.f0 = 3 ∨ x.f0 = 4) :
  Calls Try.prog 85 #[.pointer (some ⟨G.x, 0, none⟩), .agg #[.int .i64 x.f0, .int .i64 x.f1, .int .i64 x.f2, .int .i64 x.f3, .int .i64 x.f4], .int .i64 d] W fun e W' => e = .returned (.tuple #[]) ∧ ∃ v', SetI w W' B G f At toks.length ct all slack ahead (wrap64 (width + d)) (sp ++ [spotP toks x width]) v' := by
 refine (show_calls At ct toks G.x B v sp width 0 x d W hct (Kd.C_below hT h.hB) h.hX h.own h.le hn hk).mono ?_
 rintro _ W' ⟨rfl, v', hX, hown, hk, hat⟩
 have keep : ∀ (i : Nat) (t : TypeId) (cs : Array Value), i < B → i ≠ G.x → W.heap[i]? = some (.cells cs t (0, 0)) → W'.heap[i]? = some (.cells cs t (0, 0)) := fun i t cs hi hne ho => by
  refine (hk.block i (blk_lt ho) hne fun e => ?_).trans ho
  have := own_base h.own i e.symm
  omega
 refine ⟨rfl, v', keep _ _ _ g.hi.2.1 g.nx.2.1 h.hS, keep _ _ _ g.hi.2.2.1 g.nx.2.2.1 h.hT, keep _ _ _ g.hi.2.2.2.1 g.nx.2.2.2 h.hA, keep _ _ _ g.hi.2.2.2.2.2 g.nh.2.2.2.2.symm h.hH, hX, keep _ _ _ g.hi.1 g.nx.1 h.hR, by simpa using hown, Nat.le_trans h.le hk.size, ?_⟩
 refine h.hB.trans ⟨hk.os, hk.tape, hk.output, hk.size, fun i hi => ?_⟩
 have h1 := h.hB.size
 have h2 := g.lo.2.2.2.2.1
 refine hk.block i (by omega) (by omega) fun e => ?_
 have := own_base h.own i e.symm
 have := g.lo.1
 have := g.hi.1
 omega
end Go.Proofs.Ytbddfnmhhmkfkaa.Pr
namespace Go.Proofs.Ytbddfnmhhmkfkaa.Pr
open Go.RowKit Go.Proofs.YtbddfnmhhmkfkaaW.PrintWords Go.Proofs.YtbddfnmhhmkfkaaW.PrintLast Go.Proofs.YtbddfnmhhmkfkaaW.PrintMore
attribute [local go_sem] max2_int min2_int max_two min_two max_three min_three max_four min_four
set_option linter.unusedVariables false
set_option linter.unusedSimpArgs false
def lines_bit.f (a0 : Bool) (a1 : Int) : Option (Int) := if a0 = true then (if 0 ≤ a1 then (some (shl .i64 1 a1)) else (none)) else (some 0)
set_option maxHeartbeats 8000000 in
set_option maxRecDepth 100000 in
theorem lines_bit.calls (a0 : Bool) (a1 : Int) (r : Int) (w : World) (h : lines_bit.f a0 a1 = some r) :
  Calls Try.prog 86 #[.bool a0, .int .u64 a1] w fun e w' => e = .returned (.int .i64 r) ∧ Drawn0 w w' := by
 have H : (if a0 = true then (if 0 ≤ a1 then (some (shl .i64 1 a1)) else (none)) else (some 0)) = some r := h
 clear h
 by_cases c3 : a0 = true
 ·subst c3
  have H1 : (if 0 ≤ a1 then (some (shl .i64 1 a1)) else (none)) = some r := by rw [if_pos rfl] at H; exact H
  clear H
  have H := H1
  clear H1
  by_cases c4 : 0 ≤ a1
  ·rw [if_pos c4] at H
   have c4b0 := eq_true c4
   have c4b1 : decide (0 ≤ a1) = true := decide_eq_true c4
   clear c4
   obtain ⟨ji5, hji5⟩ : ∃ j_ : Int, (shl .i64 1 a1) = j_ := ⟨_, rfl⟩
   replace H : (some ji5) = some r := by first | (rw [hji5] at H; exact H) | (simp only [hji5] at H ⊢; exact H)
   have hji5_ : (IntKind.i64.wrap (1 * 2 ^ min a1.toNat 64)) = ji5 := hji5
   have hji5z : a1 ≤ 64 → (IntKind.i64.wrap (1 * 2 ^ a1.toNat)) = ji5 := shl_small hji5
   have hji5u : (IntKind.i64.wrap (2 ^ min a1.toNat 64)) = ji5 := by have h_ := hji5_; rw [Int.one_mul] at h_; exact h_
   have hji5v : a1 ≤ 64 → (IntKind.i64.wrap (2 ^ a1.toNat)) = ji5 := fun hle_ => by have h_ := hji5z hle_; rw [Int.one_mul] at h_; exact h_
   have hji5y : (wrap64 (1 * 2 ^ min a1.toNat 64)) = ji5 := (i64_w _).symm.trans hji5_
   have hji5x : a1 ≤ 64 → (wrap64 (1 * 2 ^ a1.toNat)) = ji5 := fun h_ => (i64_w _).symm.trans (hji5z h_)
   obtain rfl := Option.some.inj H
   go_enter Try.func86, Try.ntmps86
   go_wp2
   go_ret
   exact ⟨by first | rfl | (simp; done) | (simp only [← hji5] <;> (first | rfl | simp)) | (simp [*]; done), by repeat (first | exact Drawn0.refl _ | apply Drawn0.step)⟩
  ·rw [if_neg c4] at H
   exact absurd H (by simp)
 ·replace c3 := Bool.eq_false_iff.mpr c3
  subst c3
  have H1 : (some 0) = some r := by rw [if_neg (show ¬ (false = true) by decide)] at H; exact H
  clear H
  have H := H1
  clear H1
  obtain rfl := Option.some.inj H
  go_enter Try.func86, Try.ntmps86
  go_wp2
  go_ret
  exact ⟨by first | rfl | (simp; done) | (simp [*]; done), by repeat (first | exact Drawn0.refl _ | apply Drawn0.step)⟩
end Go.Proofs.Ytbddfnmhhmkfkaa.Pr
namespace Go.Proofs.Ytbddfnmhhmkfkaa.Pr
set_option linter.unusedVariables false
set_option linter.unusedSimpArgs false
open Go.RowKit Go.Proofs.YtbddfnmhhmkfkaaW.PrintWords Go.Proofs.YtbddfnmhhmkfkaaW.PrintLast Go.Proofs.YtbddfnmhhmkfkaaW.PrintMore
theorem max_op (ats : Array TypeId) (ty : TypeId) (k : IntKind) (a b : Int) : Builtin.max_ ats ty #[.int k a, .int k b] = pure (.int k (mx a b)) := by
 rw [max_two, max2_int]
 rfl
theorem min_op (ats : Array TypeId) (ty : TypeId) (k : IntKind) (a b : Int) : Builtin.min_ ats ty #[.int k a, .int k b] = pure (.int k (mn a b)) := by
 rw [min_two, min2_int]
 rfl
attribute [local go_sem] Oper.semAt_some max_op min_op run_store_func
def dashN (n : Int) (dl : List S43) (k : Nat) : Int := (dl.take k).foldl (fun n x => wrap64 (n + x.f1)) n
def stepL (toks : List S101) (T : S43 → Int) (slack all : Int) (st : Int × Int × List S57) (x : S43) : Int × Int × List S57 :=
 if x.f0 = 3 then st else (aheadP all st.1 (T x), wrap64 (st.2.1 + wrap64 (x.f1 + partP slack all st.1 (T x))), st.2.2 ++ [spotP toks x st.2.1])
def lineL (toks : List S101) (T : S43 → Int) (slack all : Int) (l : List S43) (k : Nat) : Int × Int × List S57 := (l.take k).foldl (stepL toks T slack all) (0, 0, [])
def stepD (toks : List S101) (st : Int × List S57) (x : S43) : Int × List S57 := (wrap64 (st.1 + x.f1), st.2 ++ [spotP toks x st.1])
def lineD (toks : List S101) (st : Int × List S57) (dl : List S43) (k : Nat) : Int × List S57 := (dl.take k).foldl (stepD toks) st
theorem take_next {α β : Type} (f : β → α → β) (b : β) (l : List α) (k : Nat) (x : α) (h : l[k]? = some x) : (l.take (k + 1)).foldl f b = f ((l.take k).foldl f b) x := by
 rw [List.take_add_one, h]
 simp only [Option.toList_some, List.foldl_append, List.foldl_cons, List.foldl_nil]
theorem rd43_get (l : List S43) (k : Nat) (h : k < l.length) : l[k]? = some (rd_T43 l k) := by
 unfold rd_T43
 rw [Int.toNat_natCast, List.getD_eq_getElem?_getD, List.getElem?_eq_getElem h]
 rfl
def bitP (b : Bool) (k : Int) : Int := if b = true then shl .i64 1 k else 0
theorem bit_ev (b : Bool) (k : Int) (h : 0 ≤ k) : lines_bit.f b k = some (bitP b k) := by
 unfold lines_bit.f bitP
 cases b
 ·rfl
 ·rw [if_pos rfl, if_pos rfl, if_pos h]
theorem line_len (toks : List S101) (T : S43 → Int) (slack all : Int) (l : List S43) : ∀ k, (lineL toks T slack all l k).2.2.length ≤ k
 | 0 => by simp [lineL]
 | k + 1 => by
  have ih := line_len toks T slack all l k
  unfold lineL at ih ⊢
  rcases Nat.lt_or_ge k l.length with h | h
  ·rw [take_next _ _ _ _ _ (rd43_get l k h)]
   generalize (l.take k).foldl (stepL toks T slack all) (0, 0, []) = st at *
   unfold stepL
   split
   ·omega
   ·simp; omega
  ·rw [List.take_of_length_le (by omega)] at ih ⊢
   omega
theorem lineD_len (toks : List S101) (st : Int × List S57) (dl : List S43) : ∀ k, (lineD toks st dl k).2.length ≤ st.2.length + k
 | 0 => by simp [lineD]
 | k + 1 => by
  have ih := lineD_len toks st dl k
  unfold lineD at ih ⊢
  rcases Nat.lt_or_ge k dl.length with h | h
  ·rw [take_next _ _ _ _ _ (rd43_get dl k h)]
   generalize (dl.take k).foldl (stepD toks) st = st' at *
   unfold stepD
   simp; omega
  ·rw [List.take_of_length_le (by omega)] at ih ⊢
   omega
theorem drawn_below {w w' : World} (h : Drawn0 w w') (B : Nat) : Below B w w' := by
 obtain ⟨⟨n, rfl⟩⟩ := h
 exact pw_below_drewN (Below.refl _ _) n
theorem set_start {w w5 : World} (f : Nat) (At : Option Addr) (nt ct : Nat) (all s : Int) (hR : w5.heap[w.heap.size]? = some (.cells #[.slice none 0 0, .int .i64 0, .int .i64 0] 55 (0, 0))) (hB : Below w.heap.size w w5) :
  SetI w (((((w5.alloc (.cells #[.int .i64 s] 3)).alloc (.cells #[.func (.func f) #[] #[]] 118)).alloc (.cells #[.int .i64 all] 3)).alloc (.cells #[.slice none 0 0, .int .i64 0, .int .i64 0, .slice At nt ct] 120)).alloc (.cells #[.int .i64 0] 3))
   (w5.heap.size + 5) ⟨w.heap.size, w5.heap.size, w5.heap.size + 1, w5.heap.size + 2, w5.heap.size + 3, w5.heap.size + 4⟩ f At nt ct all s 0 0 [] (.slice none 0 0) := by
 have hlt := blk_lt hR
 have a1 := blk_new w5 (.cells #[.int .i64 s] 3)
 have a2 := blk_new (w5.alloc (.cells #[.int .i64 s] 3)) (.cells #[.func (.func f) #[] #[]] 118)
 have a3 := blk_new ((w5.alloc (.cells #[.int .i64 s] 3)).alloc (.cells #[.func (.func f) #[] #[]] 118)) (.cells #[.int .i64 all] 3)
 have a4 := blk_new (((w5.alloc (.cells #[.int .i64 s] 3)).alloc (.cells #[.func (.func f) #[] #[]] 118)).alloc (.cells #[.int .i64 all] 3)) (.cells #[.slice none 0 0, .int .i64 0, .int .i64 0, .slice At nt ct] 120)
 have a5 := blk_new ((((w5.alloc (.cells #[.int .i64 s] 3)).alloc (.cells #[.func (.func f) #[] #[]] 118)).alloc (.cells #[.int .i64 all] 3)).alloc (.cells #[.slice none 0 0, .int .i64 0, .int .i64 0, .slice At nt ct] 120)) (.cells #[.int .i64 0] 3)
 have hs := hB.size
 simp only [World.size_alloc] at a1 a2 a3 a4 a5
 refine ⟨blk_alloc (blk_alloc (blk_alloc (blk_alloc a1 _) _) _) _, blk_alloc (blk_alloc (blk_alloc a2 _) _) _, blk_alloc (blk_alloc a3 _) _, a5, blk_alloc a4 _, blk_alloc (blk_alloc (blk_alloc (blk_alloc (blk_alloc hR _) _) _) _) _, ⟨rfl, .inl ⟨rfl, rfl⟩⟩, by simp,
  ((((hB.alloc hs _).alloc (by simp; omega) _).alloc (by simp; omega) _).alloc (by simp; omega) _).alloc (by simp; omega) _⟩
theorem set_ok {w w5 : World} (hlt : w.heap.size < w5.heap.size) : SetG.Ok ⟨w.heap.size, w5.heap.size, w5.heap.size + 1, w5.heap.size + 2, w5.heap.size + 3, w5.heap.size + 4⟩ w.heap.size (w5.heap.size + 5) :=
 ⟨⟨Nat.le_refl _, by show _ ≤ w5.heap.size; omega, by show _ ≤ w5.heap.size + 1; omega, by show _ ≤ w5.heap.size + 2; omega, by show _ ≤ w5.heap.size + 3; omega, by show _ ≤ w5.heap.size + 4; omega⟩,
  ⟨by show w.heap.size < _; omega, by show w5.heap.size < _; omega, by show w5.heap.size + 1 < _; omega, by show w5.heap.size + 2 < _; omega, by show w5.heap.size + 3 < _; omega, by show w5.heap.size + 4 < _; omega⟩,
  ⟨by show w.heap.size ≠ w5.heap.size + 4; omega, by show w5.heap.size ≠ w5.heap.size + 4; omega, by show w5.heap.size + 1 ≠ w5.heap.size + 4; omega, by show w5.heap.size + 2 ≠ w5.heap.size + 4; omega, by show w5.heap.size + 3 ≠ w5.heap.size + 4; omega⟩,
  ⟨by show w.heap.size ≠ w5.heap.size + 3; omega, by show w5.heap.size ≠ w5.heap.size + 3; omega, by show w5.heap.size + 1 ≠ w5.heap.size + 3; omega, by show w5.heap.size + 2 ≠ w5.heap.size + 3; omega⟩⟩
def tellP (s0 : Int) : S43 → Int := if s0 < 0 then shrinkT else growT
def allP (s0 y z : Int) : Int := if s0 < 0 then z else y
def slackP (ends : Bool) (nn wd s0 : Int) : Int := if ends = true ∧ nn ≤ wd then 0 else s0
def setQ (toks : List S101) (l dl : List S43) (wd : Int) (ends : Bool) (y z nn s0 : Int) (n k : Nat) : S55 :=
 ⟨(lineD toks (lineL toks (tellP s0) (slackP ends nn wd s0) (allP s0 y z) l n).2 dl k).2, (lineD toks (lineL toks (tellP s0) (slackP ends nn wd s0) (allP s0 y z) l n).2 dl k).1,
  bits .or .i64 (bits .or .i64 (bitP (decide (wd < wrap64 (nn - z))) 0) (bitP (!ends && decide (wrap64 (nn + y) < wd)) 1)) (bitP (decide (0 < k)) 2)⟩
def setP (toks : List S101) (l : List S43) (wd : Int) (ends : Bool) (dl : List S43) : S55 :=
 setQ toks l dl wd ends (sumT growT l l.length) (sumT shrinkT l l.length) (dashN (sumT wideT l l.length) dl dl.length)
  (mn (mx (wrap64 (wd - dashN (sumT wideT l l.length) dl dl.length)) (wrap64 (-sumT shrinkT l l.length))) (sumT growT l l.length)) l.length dl.length
set_option maxRecDepth 100000 in
set_option maxHeartbeats 4000000 in
theorem set_calls (At : Option Addr) (ct : Nat) (toks : List S101) (A : Option Addr) (c : Nat) (l : List S43) (wd : Int) (ends : Bool) (Ad : Option Addr) (cd : Nat) (dl : List S43) (w : World)
  (hct : toks.length ≤ ct) (hT : Kd.C k101 w At toks.length toks) (hA : Kd.C k43 w A l.length l) (hD : Kd.C k43 w Ad dl.length dl) (hl : l.length ≤ 1000) (hdl : dl.length ≤ 1000)
  (hk : ∀ x ∈ l, x.f0 = 1 ∨ x.f0 = 2 ∨ x.f0 = 3 ∨ x.f0 = 4) (hkd : ∀ x ∈ dl, x.f0 = 1 ∨ x.f0 = 2 ∨ x.f0 = 3 ∨ x.f0 = 4) :
  Calls Try.prog 63 #[.slice At toks.length ct, .slice A l.length c, .int .i64 wd, .bool ends, .slice Ad dl.length cd] w fun e w' => ∃ v, e = .returned (.agg #[v, .int .i64 (setP toks l wd ends dl).f1, .int .i64 (setP toks l wd ends dl).f2]) ∧ w'.ownsRow w.heap.size 57 4 v (setP toks l wd ends dl).f0.length (flat57 (setP toks l wd ends dl).f0) ∧ Below w.heap.size w w' := by
 obtain ⟨R, hR⟩ : ∃ R, setP toks l wd ends dl = R := ⟨_, rfl⟩
 rw [hR]
 unfold setP at hR
 have HTK := Lib.hid hT
 have HA := Lib.hid hA
 have HD := Lib.hid hD
 clear hT hA hD
 obtain ⟨n, hn⟩ : ∃ n, l.length = n := ⟨_, rfl⟩
 obtain ⟨m, hm⟩ : ∃ m, dl.length = m := ⟨_, rfl⟩
 obtain ⟨nt, hnt⟩ : ∃ m, toks.length = m := ⟨_, rfl⟩
 have HN := Lib.hid hn
 have HM := Lib.hid hm
 have HNT := Lib.hid hnt
 rw [hm, hn] at hR
 rw [hnt, hm, hn]
 have hm1 : m ≤ 1000 := by omega
 have hn1 : n ≤ 1000 := by omega
 have hcA : ∀ W, Below w.heap.size w W → Calls Try.prog 80 #[.slice A n c, .func (.func 81) #[] #[]] W (fun e w' => e = .returned (.int .i64 (sumT wideT l n)) ∧ Below W.heap.size W w') ∧
   Calls Try.prog 80 #[.slice A n c, .func (.func 82) #[] #[]] W (fun e w' => e = .returned (.int .i64 (sumT growT l n)) ∧ Below W.heap.size W w') ∧
   Calls Try.prog 80 #[.slice A n c, .func (.func 83) #[] #[]] W (fun e w' => e = .returned (.int .i64 (sumT shrinkT l n)) ∧ Below W.heap.size W w') := fun W hW => by
  rw [← hn]
  exact ⟨sum_calls 81 wideT wide_tells A c l W (by omega) (Kd.C_below HA.out hW), sum_calls 82 growT grow_tells A c l W (by omega) (Kd.C_below HA.out hW), sum_calls 83 shrinkT shrink_tells A c l W (by omega) (Kd.C_below HA.out hW)⟩
 have HS := Lib.hid hcA
 clear hcA hn hm hnt
 generalize hn0 : sumT wideT l n = n0 at *
 generalize hy : sumT growT l n = y at *
 generalize hz : sumT shrinkT l n = z at *
 have HRP := Lib.hid hR
 clear hR
 have hr0 := blk_new w (.cells #[.slice none 0 0, .int .i64 0, .int .i64 0] 55)
 have hb0 := (Below.refl w.heap.size w).alloc (Nat.le_refl _) (.cells #[.slice none 0 0, .int .i64 0, .int .i64 0] 55)
 obtain ⟨w1, hw1⟩ : ∃ w1, w.alloc (.cells #[.slice none 0 0, .int .i64 0, .int .i64 0] 55) = w1 := ⟨_, rfl⟩
 rw [hw1] at hr0 hb0
 have HR0 := Lib.hid hr0
 have HB0 := Lib.hid hb0
 clear hr0 hb0
 go_enter Try.func63, Try.ntmps63
 go_wp2_with fail
 refine (HS.out _ HB0.out).1.mono ?_
 rintro _ w2 ⟨rfl, hb2⟩
 have hr2 := blk_below HR0.out hb2
 replace hb2 := HB0.out.trans (hb2.mono HB0.out.size)
 have HR2 := Lib.hid hr2
 have HB2 := Lib.hid hb2
 clear hr2 hb2 hw1
 go_wp2_with fail
 go_loopw [11, 30] (fun v11 v30 wr => ∃ (k : Nat), v30 = .int .i64 k ∧ k ≤ m ∧ v11 = .int .i64 (dashN n0 dl k) ∧ wr.heap[w.heap.size]? = some (.cells #[.slice none 0 0, .int .i64 0, .int .i64 0] 55 (0, 0)) ∧ Below w.heap.size w wr) (fun _ v _ => m - (intOf v).toNat)
 case atStart => exact ⟨0, rfl, Nat.zero_le _, rfl, HR2.out, HB2.out⟩
 case round =>
  obtain ⟨k, rfl, hkm, rfl, hR, hB⟩ := hrel
  by_cases hlt : k < m
  ·have hlt1 : (k : Int) < (m : Int) := by omega
   obtain ⟨ad, e1, q0, q1, q2, q3, q4⟩ := at_T43 (Kd.C_below HD.out hB) k (by omega) (by have := HM.out; omega)
   cases e1
   have hnx : Hid (dashN n0 dl (k + 1) = wrap64 (dashN n0 dl k + (rd_T43 dl k).f1)) := take_next _ _ _ _ _ (rd43_get dl k (by have := HM.out; omega))
   generalize rd_T43 dl k = x at *
   obtain ⟨f0, f1, f2, f3, f4⟩ := x
   simp only [Int.toNat_natCast] at q0 q1 q2 q3 q4
   have HRr := Lib.hid hR
   clear hR
   go_wp2_with fail
   go_roundw
   case rel => exact ⟨k + 1, by go_num, by omega, by rw [hnx.out], blk_alloc HRr.out _, hB.alloc hB.size _⟩
   case measure => simp [intOf]; omega
  ·obtain rfl : k = m := by omega
   have hlt1 : ¬ (k : Int) < (k : Int) := by omega
   have HR3 := Lib.hid hR
   have HB3 := Lib.hid hB
   clear hR hB
   generalize hnn : dashN n0 dl k = nn at *
   go_wp2_with fail
   refine (HS.out _ HB3.out).2.1.mono ?_
   rintro _ w4 ⟨rfl, hb4⟩
   have hr4 := blk_below HR3.out hb4
   replace hb4 := HB3.out.trans (hb4.mono HB3.out.size)
   have HR4 := Lib.hid hr4
   have HB4 := Lib.hid hb4
   clear hr4 hb4
   go_wp2_with fail
   refine (HS.out _ HB4.out).2.2.mono ?_
   rintro _ w5 ⟨rfl, hb5⟩
   have hr5 := blk_below HR4.out hb5
   replace hb5 := HB4.out.trans (hb5.mono HB4.out.size)
   have HR5 := Lib.hid hr5
   have HB5 := Lib.hid hb5
   clear hr5 hb5
   obtain ⟨s0, hs0⟩ : ∃ s0, mn (mx (wrap64 (wd - nn)) (wrap64 (-z))) y = s0 := ⟨_, rfl⟩
   have hq := HRP.out
   rw [hs0] at hq
   have HRQ := Lib.hid hq
   clear hq HRP
   by_cases hs : s0 < 0 <;> (rcases Bool.eq_false_or_eq_true ends with he | he) <;> (by_cases hle : nn ≤ wd)
   all_goals
    have HS0 := Lib.hid hs
    have HLE := Lib.hid hle
    have HEN := Lib.hid he
    go_wp2_with fail
   all_goals
    generalize hW : World.alloc _ _ = W
    obtain ⟨f, HT, I0⟩ : ∃ f, Tells f (tellP s0) ∧ SetI w W (w5.heap.size + 5) ⟨w.heap.size, w5.heap.size, w5.heap.size + 1, w5.heap.size + 1 + 1, w5.heap.size + 1 + 1 + 1, w5.heap.size + 1 + 1 + 1 + 1⟩ f At nt ct (allP s0 y z) (slackP ends nn wd s0) 0 0 [] (.slice none 0 0) := by
     have hs1 := HS0.out
     have hl1 := HLE.out
     have he1 := HEN.out
     rw [← hW]
     unfold tellP allP slackP
     first
     | rw [if_pos (⟨he1, by omega⟩ : ends = true ∧ nn ≤ wd)]
     | rw [if_neg (fun h : ends = true ∧ nn ≤ wd => by have := h.2; omega)]
     | rw [if_neg (fun h : ends = true ∧ nn ≤ wd => by have := h.1; rw [he1] at this; cases this)]
     first
     | (rw [if_pos (by omega : s0 < 0), if_pos (by omega : s0 < 0)]; exact ⟨83, shrink_tells, set_start _ _ _ _ _ _ HR5.out HB5.out⟩)
     | (rw [if_neg (by omega : ¬ s0 < 0), if_neg (by omega : ¬ s0 < 0)]; exact ⟨82, grow_tells, set_start _ _ _ _ _ _ HR5.out HB5.out⟩)
   all_goals
    have hG : SetG.Ok ⟨w.heap.size, w5.heap.size, w5.heap.size + 1, w5.heap.size + 1 + 1, w5.heap.size + 1 + 1 + 1, w5.heap.size + 1 + 1 + 1 + 1⟩ w.heap.size (w5.heap.size + 5) := set_ok (blk_lt HR5.out)
    clear hW HR5 HB5 HR3 HB3 HR2 HB2 HR0 HB0 HR4 HB4
    have HI0 := Lib.hid I0
    have HT1 := Lib.hid HT
    have HG := Lib.hid hG
    clear I0 HT hG
    obtain rfl := HNT.out
    generalize w5.heap.size + 5 = B at *
    generalize w5.heap.size + 1 + 1 + 1 + 1 = gh at *
    generalize w5.heap.size + 1 + 1 + 1 = gx at *
    generalize w5.heap.size + 1 + 1 = ga at *
    generalize w5.heap.size + 1 = gt at *
    generalize w5.heap.size = gs at *
    obtain ⟨T, hTT⟩ : ∃ T, tellP s0 = T := ⟨_, rfl⟩
    obtain ⟨al, hal⟩ : ∃ al, allP s0 y z = al := ⟨_, rfl⟩
    obtain ⟨sl, hsl⟩ : ∃ sl, slackP ends nn wd s0 = sl := ⟨_, rfl⟩
    have hi0 := HI0.out
    have ht1 := HT1.out
    rw [hal, hsl] at hi0
    rw [hTT] at ht1
    have hq := HRQ.out
    unfold setQ at hq
    rw [hTT, hal, hsl, he] at hq
    clear HI0 HT1 HRQ
    have HI0 := Lib.hid hi0
    have HT1 := Lib.hid ht1
    have HTA := Lib.hid hq
    clear hi0 ht1 hq hTT hal hsl
    go_loopw [66] (fun v66 wr => ∃ (k : Nat) (v : Value), v66 = .int .i64 k ∧ k ≤ n ∧ SetI w wr B ⟨w.heap.size, gs, gt, ga, gx, gh⟩ f At toks.length ct al sl (lineL toks T sl al l k).1 (lineL toks T sl al l k).2.1 (lineL toks T sl al l k).2.2 v) (fun v _ => n - (intOf v).toNat)
    case atStart => exact ⟨0, _, rfl, Nat.zero_le _, HI0.out⟩
    case round =>
     obtain ⟨j, v, rfl, hj, hI⟩ := hrel
     by_cases hlt : j < n
     ·have hlt1 : (j : Int) < (n : Int) := by omega
      obtain ⟨ad, e1, q0, q1, q2, q3, q4⟩ := at_T43 (Kd.C_below HA.out hI.hB) j (by omega) (by have := HN.out; omega)
      cases e1
      have hnx : Hid (lineL toks T sl al l (j + 1) = stepL toks T sl al (lineL toks T sl al l j) (rd_T43 l j)) := take_next _ _ _ _ _ (rd43_get l j (by have := HN.out; omega))
      have hkx := hk (rd_T43 l j) (List.mem_of_getElem? (rd43_get l j (by have := HN.out; omega)))
      have hln := line_len toks T sl al l j
      generalize rd_T43 l j = x at *
      generalize lineL toks T sl al l j = st at *
      obtain ⟨f0, f1, f2, f3, f4⟩ := x
      simp only [Int.toNat_natCast] at q0 q1 q2 q3 q4
      have HI := Lib.hid hI
      have HK := Lib.hid hkx
      clear hI hkx
      by_cases h3 : f0 = 3
      ·subst h3
       go_wp2_with fail
       refine ⟨⟨j + 1, v, by simp, by omega, ?_⟩, by simp [intOf]; omega⟩
       rw [hnx.out, stepL, if_pos rfl]
       exact HI.out.below ((Below.refl _ _).alloc (Nat.le_refl _) _)
      ·have h3b : (f0 == 3) = false := beq_eq_false_iff_ne.2 h3
       have hbox := blk_new wr (.cells #[.int .i64 f0, .int .i64 f1, .int .i64 f2, .int .i64 f3, .int .i64 f4] 43)
       have hIb := HI.out.below ((Below.refl _ _).alloc (Nat.le_refl _) (.cells #[.int .i64 f0, .int .i64 f1, .int .i64 f2, .int .i64 f3, .int .i64 f4] 43))
       have hgb : wr.heap.size ≠ gh := by
        have h1 := HG.out.hi.2.2.2.2.2
        have h2 := HI.out.le
        simp only at h1
        omega
       have HBX := Lib.hid hbox
       have HIB := Lib.hid hIb
       have HGB := Lib.hid hgb
       have H3 := Lib.hid h3
       clear hbox hIb hgb
       go_wp2_with fail
       refine Go.Mix.region_mix' (fun b W => SetI w W B ⟨w.heap.size, gs, gt, ga, gx, gh⟩ f At toks.length ct al sl (bif b then aheadP al st.1 (T ⟨f0, f1, f2, f3, f4⟩) else st.1) st.2.1 st.2.2 v ∧ W.heap[wr.heap.size]? = some (.cells #[.int .i64 f0, .int .i64 f1, .int .i64 f2, .int .i64 f3, .int .i64 f4] 43 (0, 0))) 5 7 [] (by kernel_rfl) (by kernel_rfl) (fun _ _ _ _ _ h => h) ⟨HIB.out.below (below_drew1 (Below.refl _ _)), HBX.out⟩ ?_
       refine Go.Mix.seqE_nil ?_
       repeat
        apply Go.Mix.seqM_cons (by rfl) (by rfl)
        focus
         intro b W hS
         have x0 := blk_cell hS.2 0
         have x1 := blk_cell hS.2 1
         have x2 := blk_cell hS.2 2
         have x3 := blk_cell hS.2 3
         have x4 := blk_cell hS.2 4
         simp only [List.getElem?_toArray, List.getElem?_cons_succ, List.getElem?_cons_zero] at x0 x1 x2 x3 x4
         have HS9 := Lib.hid hS
         clear hS
         go_wp2
         exact Go.Det.AtEnd.mk HS9.out
       apply Go.Mix.seqM_main (by rfl)
       focus
        intro W hS
        have HS9 := Lib.hid hS
        clear hS
        go_wp2_with fail
        refine (set_share HT1.out HG.out HS9.out.1 ⟨f0, f1, f2, f3, f4⟩).mono ?_
        rintro _ W2 ⟨rfl, hI2, hkeep⟩
        have HE9 := Lib.hid (And.intro hI2 (hkeep _ _ HGB.out HS9.out.2))
        clear hI2 hkeep
        go_wp2
        exact Go.Det.AtEnd.mk HE9.out
       repeat
        apply Go.Mix.seqM_cons (by rfl) (by rfl)
        focus
         intro b W hS
         have HS9 := Lib.hid hS
         clear hS
         go_wp2
         exact Go.Det.AtEnd.mk HS9.out
       refine Go.Mix.seqM_nil ?_
       intro W hS
       have HS9 := Lib.hid hS
       clear hS
       simp only [List.drop_succ_cons, List.drop_zero]
       go_wp2_with fail
       refine (set_show HG.out hct HTK.out HS9.out.1 (by omega) ⟨f0, f1, f2, f3, f4⟩ _ HK.out).mono ?_
       rintro _ W2 ⟨rfl, v', hI2⟩
       have HE9 := Lib.hid hI2
       clear hI2
       go_wp2
       refine ⟨⟨j + 1, v', by simp, by omega, ?_⟩, by simp [intOf]; omega⟩
       rw [hnx.out, stepL, if_neg H3.out]
       exact HE9.out
     ·obtain rfl : j = n := by omega
      have hlt1 : ¬ (j : Int) < (j : Int) := by omega
      have hln := line_len toks T sl al l j
      obtain ⟨st, hst⟩ : ∃ st, lineL toks T sl al l j = st := ⟨_, rfl⟩
      rw [hst] at hI hln
      obtain ⟨ah, wt, sp⟩ := st
      simp only at hln
      have HI := Lib.hid hI
      have HST := Lib.hid hst
      clear hI hst
      go_wp2_with fail
      go_loopw [84] (fun v84 wr => ∃ (i : Nat) (v : Value), v84 = .int .i64 i ∧ i ≤ k ∧ SetI w wr B ⟨w.heap.size, gs, gt, ga, gx, gh⟩ f At toks.length ct al sl ah (lineD toks (wt, sp) dl i).1 (lineD toks (wt, sp) dl i).2 v) (fun v _ => k - (intOf v).toNat)
      case atStart => exact ⟨0, v, rfl, Nat.zero_le _, HI.out⟩
      case round =>
       obtain ⟨i, v, rfl, hi, hI⟩ := hrel
       by_cases hlt : i < k
       ·have hlt2 : (i : Int) < (k : Int) := by omega
        obtain ⟨ad, e1, q0, q1, q2, q3, q4⟩ := at_T43 (Kd.C_below HD.out hI.hB) i (by omega) (by have := HM.out; omega)
        cases e1
        have hnx : Hid (lineD toks (wt, sp) dl (i + 1) = stepD toks (lineD toks (wt, sp) dl i) (rd_T43 dl i)) := take_next _ _ _ _ _ (rd43_get dl i (by have := HM.out; omega))
        have hkx := hkd (rd_T43 dl i) (List.mem_of_getElem? (rd43_get dl i (by have := HM.out; omega)))
        have hld := lineD_len toks (wt, sp) dl i
        generalize rd_T43 dl i = x at *
        generalize lineD toks (wt, sp) dl i = st at *
        obtain ⟨f0, f1, f2, f3, f4⟩ := x
        simp only [Int.toNat_natCast] at q0 q1 q2 q3 q4 hln hld
        have HIb := Lib.hid (hI.below ((Below.refl _ _).alloc (Nat.le_refl _) (.cells #[.int .i64 f0, .int .i64 f1, .int .i64 f2, .int .i64 f3, .int .i64 f4] 43)))
        have HK := Lib.hid hkx
        clear hI hkx
        go_wp2_with fail
        refine (set_show HG.out hct HTK.out HIb.out (by omega) ⟨f0, f1, f2, f3, f4⟩ _ HK.out).mono ?_
        rintro _ W2 ⟨rfl, v', hI2⟩
        have HE9 := Lib.hid hI2
        clear hI2
        go_wp2
        refine ⟨⟨i + 1, v', by simp, by omega, ?_⟩, by simp [intOf]; omega⟩
        rw [hnx.out, stepD]
        exact HE9.out
       ·obtain rfl : i = k := by omega
        have hlt2 : ¬ (i : Int) < (i : Int) := by omega
        have HI9 := Lib.hid hI
        clear hI
        go_wp2_with fail
        refine (lines_bit.calls _ 0 _ _ (bit_ev _ 0 (by decide))).mono ?_
        rintro _ wb1 ⟨rfl, hd1⟩
        have HJ1 := Lib.hid (HI9.out.below (drawn_below hd1 _))
        clear hd1
        go_wp2_with fail
        refine (lines_bit.calls _ 1 _ _ (bit_ev _ 1 (by decide))).mono ?_
        rintro _ wb2 ⟨rfl, hd2⟩
        have HJ2 := Lib.hid (HJ1.out.below (drawn_below hd2 _))
        clear hd2
        go_wp2_with fail
        refine (lines_bit.calls _ 2 _ _ (bit_ev _ 2 (by decide))).mono ?_
        rintro _ wb3 ⟨rfl, hd3⟩
        have HJ3 := Lib.hid (HJ2.out.below (drawn_below hd3 _))
        clear hd3
        obtain ⟨A', c', rfl⟩ := own_slice HJ3.out.own
        have hne := HG.out.nx.1
        simp only at hne
        have y0 := blk_cell HJ3.out.hX 0
        have y1 := blk_cell HJ3.out.hX 1
        have y2 := blk_cell HJ3.out.hX 2
        have y3 := blk_frozen HJ3.out.hX 2
        simp only [List.getElem?_toArray, List.getElem?_cons_succ, List.getElem?_cons_zero] at y0 y1 y2
        have hkeep : ∀ b : Int, (wb3.setCell ⟨gx, 2, none⟩ (.int .i64 b)).heap[w.heap.size]? = some (.cells #[.slice none 0 0, .int .i64 0, .int .i64 0] 55 (0, 0)) := fun b => blk_far HJ3.out.hR (p := ⟨gx, 2, none⟩) hne _
        have r0 := fun b => blk_cell (hkeep b) 0
        have r1 := fun b => blk_cell (hkeep b) 1
        have r2 := fun b => blk_cell (hkeep b) 2
        have s0 := fun b => blk_frozen (hkeep b) 0
        have s1 := fun b => blk_frozen (hkeep b) 1
        have s2 := fun b => blk_frozen (hkeep b) 2
        have HKE := Lib.hid hkeep
        clear hkeep
        simp only [List.getElem?_toArray, List.getElem?_cons_succ, List.getElem?_cons_zero] at r0 r1 r2
        go_wp2_with fail
        have hRR := HTA.out
        rw [HST.out] at hRR
        simp only [Bool.not_true, Bool.false_and, Bool.not_false, Bool.true_and] at hRR
        have hb0 := congrArg S55.f0 hRR
        have hb1 := congrArg S55.f1 hRR
        have hb2 := congrArg S55.f2 hRR
        simp only at hb0 hb1 hb2
        rw [hb2]
        rw [← hb1, ← hb0]
        clear hRR hb0 hb1 hb2
        generalize R.f2 = b at *
        have n1 := own_apart HJ3.out.own HJ3.out.hX (by decide)
        have n2 := own_apart HJ3.out.own HJ3.out.hR (by decide)
        have hr3 := blk_set (blk_set (blk_set (HKE.out b) 0 (.slice A' (lineD toks (wt, sp) dl i).2.length c')) 1 (.int .i64 (lineD toks (wt, sp) dl i).1)) 2 (.int .i64 b)
        have ho3 := own_setCell (own_setCell (own_setCell (own_setCell HJ3.out.own (p := ⟨gx, 2, none⟩) n1 (.int .i64 b)) (p := ⟨w.heap.size, 0, none⟩) n2 (.slice A' (lineD toks (wt, sp) dl i).2.length c')) (p := ⟨w.heap.size, 1, none⟩) n2 (.int .i64 (lineD toks (wt, sp) dl i).1)) (p := ⟨w.heap.size, 2, none⟩) n2 (.int .i64 b)
        have hgl := HG.out.lo.2.2.2.2.1
        have hgB := HG.out.hi.1
        simp only at hgl hgB
        have hb3 := (((HJ3.out.hB.setCell (p := ⟨gx, 2, none⟩) hgl (.int .i64 b)).setCell (p := ⟨w.heap.size, 0, none⟩) (Nat.le_refl _) (.slice A' (lineD toks (wt, sp) dl i).2.length c')).setCell (p := ⟨w.heap.size, 1, none⟩) (Nat.le_refl _) (.int .i64 (lineD toks (wt, sp) dl i).1)).setCell (p := ⟨w.heap.size, 2, none⟩) (Nat.le_refl _) (.int .i64 b)
        generalize ((((wb3.setCell ⟨gx, 2, none⟩ (.int .i64 b)).setCell ⟨w.heap.size, 0, none⟩ (.slice A' (lineD toks (wt, sp) dl i).2.length c')).setCell ⟨w.heap.size, 1, none⟩ (.int .i64 (lineD toks (wt, sp) dl i).1)).setCell ⟨w.heap.size, 2, none⟩ (.int .i64 b)) = W9 at *
        have z0 := blk_cell hr3 0
        have z1 := blk_cell hr3 1
        have z2 := blk_cell hr3 2
        simp at z0 z1 z2
        refine bodyPost_ret (v := .agg #[.slice A' (lineD toks (wt, sp) dl i).2.length c', .int .i64 (lineD toks (wt, sp) dl i).1, .int .i64 b]) ?_ rfl ⟨_, rfl, own_weaken ho3 (by omega), hb3⟩
        simp [results, Try.results63, go_sem, z0, z1, z2]
end Go.Proofs.Ytbddfnmhhmkfkaa.Pr
