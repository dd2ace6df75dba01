/- Texts of this seat, one behind the other. -/
import Derived.Test.YtbddfnmhhmkfkaaProg
import Derived.Below
import Derived.Deep.Draws
import Derived.Deep.AppendLies
import Derived.Maps.AppendAt
import Derived.OwnWalk
import Derived.Laws.BytesArg
import Derived.Laws.MakeOwn
import Derived.Laws.OwnMore
import Derived.Deep.OwnRows
import Derived.Tactics
import Derived.Lib.ConvBytes
import Derived.Laws.Slices
import Derived.WalkKit
import Derived.KernelRfl
import Derived.RowKit3
import Derived.Deep.LoopGhost
import Derived.Deep.QuietTactic
import Derived.BigQuiet
import Derived.WideLaws
import Derived.Deep.DeepCutAuto
import Derived.Deep.CutBlock
import Derived.Deep.RegionHeld3
import Derived.Laws.Rows
import Derived.Lib.AppendStr
import Derived.ArgAppend
import Derived.Laws.IdiomCopy
import Derived.OrdersHeld
import Derived.Laws.BitsLemmas
import Derived.RowKit
import Derived.Test.YtbddfnmhhmkfkaaWWords
import Derived.Test.YtbddfnmhhmkfkaaWLast
import Derived.Test.YtbddfnmhhmkfkaaWTab
import Derived.Test.YtbddfnmhhmkfkaaWQPut
import Derived.Test.YtbddfnmhhmkfkaaWApart
import Derived.Test.YtbddfnmhhmkfkaaWArr
import Derived.Test.YtbddfnmhhmkfkaaWZeros
import Derived.Test.YtbddfnmhhmkfkaaWFoot
import Derived.Test.YtbddfnmhhmkfkaaWKept
import Derived.Test.YtbddfnmhhmkfkaaWShare
import Derived.Test.YtbddfnmhhmkfkaaWN
import Derived.Test.YtbddfnmhhmkfkaaWFootNe
import Derived.Test.YtbddfnmhhmkfkaaWAt
import Derived.Test.YtbddfnmhhmkfkaaWEqStruct
import Derived.Test.YtbddfnmhhmkfkaaWRepsOne
import Derived.Test.YtbddfnmhhmkfkaaWInv
import Derived.Test.YtbddfnmhhmkfkaaWInvWords
import Derived.Test.YtbddfnmhhmkfkaaWGuard
import Derived.Test.YtbddfnmhhmkfkaaWNEv
import Derived.Test.YtbddfnmhhmkfkaaWMore
import Derived.Deep.Slices
import Derived.Deep.Fields
import Derived.ChangeSame
import Derived.SizedLaws
import Derived.ChangeSlices
import Derived.Lib.Hide
import Derived.Orders
import Derived.Deep.RegionHeld
namespace Go.Proofs.Ytbddfnmhhmkfkaa.Pr
open Go.RowKit Go.Proofs.YtbddfnmhhmkfkaaW.PrintWords Go.Proofs.YtbddfnmhhmkfkaaW.PrintLast Go.Proofs.YtbddfnmhhmkfkaaW.PrintMore
attribute [local go_sem] max2_int min2_int max_two min_two max_three min_three max_four min_four
set_option linter.unusedVariables false
set_option linter.unusedSimpArgs false
def errW : Option Int → Value
 | none => .nilIface
 | some c => .iface 0 (.int .i64 c)
theorem errW_none : errW none = .nilIface := rfl
theorem errW_some (c : Int) : errW (some c) = .iface 0 (.int .i64 c) := rfl
theorem info3 : (Try.prog.info? 3).map (fun i => (i.zero, i.size, i.bytes)) = some (some (.int .i64 0), 1, 8) := by kernel_rfl
theorem info43 : (Try.prog.info? 43).map (fun i => (i.zero, i.size, i.bytes)) = some (some (.agg #[(.int .i64 0), (.int .i64 0), (.int .i64 0), (.int .i64 0), (.int .i64 0)]), 5, 40) := by kernel_rfl
structure S43 where
 f0 : Int
 f1 : Int
 f2 : Int
 f3 : Int
 f4 : Int
def z43 : S43 := ⟨(0 : Int), (0 : Int), (0 : Int), (0 : Int), (0 : Int)⟩
def k43 : Kd S43 := Kd.iso (Kd.pair (Kd.int .i64) (Kd.pair (Kd.int .i64) (Kd.pair (Kd.int .i64) (Kd.pair (Kd.int .i64) (Kd.int .i64))))) (fun x : S43 => (x.f0, x.f1, x.f2, x.f3, x.f4))
theorem k43_open {w : World} {x : S43} {cs : List Value} (h : k43.K w x cs) : cs = [.int .i64 x.f0, .int .i64 x.f1, .int .i64 x.f2, .int .i64 x.f3, .int .i64 x.f4] := by
 obtain ⟨_, _, rfl, rfl, ⟨_, _, rfl, rfl, ⟨_, _, rfl, rfl, ⟨_, _, rfl, rfl, rfl⟩⟩⟩⟩ := h
 exact rfl
theorem k43_mk (w : World) (x : S43)  : k43.K w x [.int .i64 x.f0, .int .i64 x.f1, .int .i64 x.f2, .int .i64 x.f3, .int .i64 x.f4] := ⟨[.int .i64 x.f0], [.int .i64 x.f1, .int .i64 x.f2, .int .i64 x.f3, .int .i64 x.f4], rfl, rfl, ⟨[.int .i64 x.f1], [.int .i64 x.f2, .int .i64 x.f3, .int .i64 x.f4], rfl, rfl, ⟨[.int .i64 x.f2], [.int .i64 x.f3, .int .i64 x.f4], rfl, rfl, ⟨[.int .i64 x.f3], [.int .i64 x.f4], rfl, rfl, rfl⟩⟩⟩⟩
theorem k43_mkM (w : World) (base : Nat) (ok : Nat → Prop) (x : S43)  : k43.M w base ok x [.int .i64 x.f0, .int .i64 x.f1, .int .i64 x.f2, .int .i64 x.f3, .int .i64 x.f4] := ⟨[.int .i64 x.f0], [.int .i64 x.f1, .int .i64 x.f2, .int .i64 x.f3, .int .i64 x.f4], rfl, rfl, ⟨[.int .i64 x.f1], [.int .i64 x.f2, .int .i64 x.f3, .int .i64 x.f4], rfl, rfl, ⟨[.int .i64 x.f2], [.int .i64 x.f3, .int .i64 x.f4], rfl, rfl, ⟨[.int .i64 x.f3], [.int .i64 x.f4], rfl, rfl, rfl⟩⟩⟩⟩
def rd_T43 (xs : List S43) (i : Int) : S43 := xs.getD i.toNat z43
theorem at_T43 {w : World} {A : Option Addr} {n : Nat} {xs : List S43} (h : Kd.C k43 w A n xs) (i : Int) (h0 : 0 ≤ i) (h1 : i < n) : ∃ ad , A = some ad ∧ w.cell? (ad.add (i.toNat * 5)) = some (.int .i64 (rd_T43 xs i).f0) ∧ w.cell? ⟨(ad.add (i.toNat * 5)).block, (ad.add (i.toNat * 5)).off + 1, none⟩ = some (.int .i64 (rd_T43 xs i).f1) ∧ w.cell? ⟨(ad.add (i.toNat * 5)).block, (ad.add (i.toNat * 5)).off + 2, none⟩ = some (.int .i64 (rd_T43 xs i).f2) ∧ w.cell? ⟨(ad.add (i.toNat * 5)).block, (ad.add (i.toNat * 5)).off + 3, none⟩ = some (.int .i64 (rd_T43 xs i).f3) ∧ w.cell? ⟨(ad.add (i.toNat * 5)).block, (ad.add (i.toNat * 5)).off + 4, none⟩ = some (.int .i64 (rd_T43 xs i).f4) := by
 obtain ⟨ad, c, e, _, hK, hc0⟩ := Kd.C_get h z43 i h0 h1
 have hc : ∀ j u, c[j]? = some u → w.cell? (ad.add (i.toNat * 5 + j)) = some u := hc0
 obtain rfl := k43_open hK
 exact ⟨ad, e, hc 0 _ rfl, by rw [← add_field _ _ 1 (by omega)]; exact hc 1 _ rfl, by rw [← add_field _ _ 2 (by omega)]; exact hc 2 _ rfl, by rw [← add_field _ _ 3 (by omega)]; exact hc 3 _ rfl, by rw [← add_field _ _ 4 (by omega)]; exact hc 4 _ rfl⟩
def rd_L2 (xs : List (List S43)) (i : Int) : (List S43) := xs.getD i.toNat ([] : List S43)
structure S85 where
 f0 : Int
 f1 : Int
 f2 : Int
def z85 : S85 := ⟨(0 : Int), (0 : Int), (0 : Int)⟩
def k85 : Kd S85 := Kd.iso (Kd.pair (Kd.int .i64) (Kd.pair (Kd.int .i64) (Kd.int .i64))) (fun x : S85 => (x.f0, x.f1, x.f2))
theorem k85_open {w : World} {x : S85} {cs : List Value} (h : k85.K w x cs) : cs = [.int .i64 x.f0, .int .i64 x.f1, .int .i64 x.f2] := by
 obtain ⟨_, _, rfl, rfl, ⟨_, _, rfl, rfl, rfl⟩⟩ := h
 exact rfl
theorem k85_mkM (w : World) (base : Nat) (ok : Nat → Prop) (x : S85)  : k85.M w base ok x [.int .i64 x.f0, .int .i64 x.f1, .int .i64 x.f2] := ⟨[.int .i64 x.f0], [.int .i64 x.f1, .int .i64 x.f2], rfl, rfl, ⟨[.int .i64 x.f1], [.int .i64 x.f2], rfl, rfl, rfl⟩⟩
def rd_T85 (xs : List S85) (i : Int) : S85 := xs.getD i.toNat z85
theorem at_T85 {w : World} {A : Option Addr} {n : Nat} {xs : List S85} (h : Kd.C k85 w A n xs) (i : Int) (h0 : 0 ≤ i) (h1 : i < n) : ∃ ad , A = some ad ∧ w.cell? (ad.add (i.toNat * 3)) = some (.int .i64 (rd_T85 xs i).f0) ∧ w.cell? ⟨(ad.add (i.toNat * 3)).block, (ad.add (i.toNat * 3)).off + 1, none⟩ = some (.int .i64 (rd_T85 xs i).f1) ∧ w.cell? ⟨(ad.add (i.toNat * 3)).block, (ad.add (i.toNat * 3)).off + 2, none⟩ = some (.int .i64 (rd_T85 xs i).f2) := by
 obtain ⟨ad, c, e, _, hK, hc0⟩ := Kd.C_get h z85 i h0 h1
 have hc : ∀ j u, c[j]? = some u → w.cell? (ad.add (i.toNat * 3 + j)) = some u := hc0
 obtain rfl := k85_open hK
 exact ⟨ad, e, hc 0 _ rfl, by rw [← add_field _ _ 1 (by omega)]; exact hc 1 _ rfl, by rw [← add_field _ _ 2 (by omega)]; exact hc 2 _ rfl⟩
def rd_L4 (xs : List (List Int)) (i : Int) : (List Int) := xs.getD i.toNat ([] : List Int)
end Go.Proofs.Ytbddfnmhhmkfkaa.Pr
namespace Go.Proofs.Ytbddfnmhhmkfkaa.Pr
set_option linter.unusedVariables false
open Go.RowKit Go.ChangeShapes Go.WideShapes Go.Deep Go.Proofs.YtbddfnmhhmkfkaaW.PrintWords
section
variable {H : Type} {enc : TypeId × Value → H} {w : World} {base : Nat} {spare : Nat → Bool} {held : Bool}
theorem cells43 : Try.prog.cellsOf 43 = 5 := by kernel_rfl
theorem cells3 : Try.prog.cellsOf 3 = 1 := by kernel_rfl
theorem bytes43 : Try.prog.bytesOf 43 = 40 := by kernel_rfl
set_option maxRecDepth 100000 in
theorem item_open {n : Nat} {cs : List Value} {y : DataW H × List MemPlace} (h : DataW.trod enc Try.prog w base spare held n 43 cs = some y) :
  ∃ x : S43, cs = [.int .i64 x.f0, .int .i64 x.f1, .int .i64 x.f2, .int .i64 x.f3, .int .i64 x.f4] := by
 obtain ⟨ys, m, rfl, _, hlen, hyl, hf⟩ := DataW.trod_struct Try.underlying43 h
 rw [cells43] at hlen
 match cs, hlen with
 | [c0, c1, c2, c3, c4], _ =>
  match ys, hyl with
  | [y0, y1, y2, y3, y4], _ =>
   have g0 : DataW.trod enc Try.prog w base spare held m 3 (([c0, c1, c2, c3, c4].drop 0).take (Try.prog.cellsOf 3)) = some y0 := hf 0 _ rfl
   have g1 : DataW.trod enc Try.prog w base spare held m 3 (([c0, c1, c2, c3, c4].drop 1).take (Try.prog.cellsOf 3)) = some y1 := hf 1 _ rfl
   have g2 : DataW.trod enc Try.prog w base spare held m 3 (([c0, c1, c2, c3, c4].drop 2).take (Try.prog.cellsOf 3)) = some y2 := hf 2 _ rfl
   have g3 : DataW.trod enc Try.prog w base spare held m 3 (([c0, c1, c2, c3, c4].drop 3).take (Try.prog.cellsOf 3)) = some y3 := hf 3 _ rfl
   have g4 : DataW.trod enc Try.prog w base spare held m 3 (([c0, c1, c2, c3, c4].drop 4).take (Try.prog.cellsOf 3)) = some y4 := hf 4 _ rfl
   rw [cells3] at g0 g1 g2 g3 g4
   obtain ⟨n0, e0, _⟩ := DataW.trod_int Try.underlying3 g0
   obtain ⟨n1, e1, _⟩ := DataW.trod_int Try.underlying3 g1
   obtain ⟨n2, e2, _⟩ := DataW.trod_int Try.underlying3 g2
   obtain ⟨n3, e3, _⟩ := DataW.trod_int Try.underlying3 g3
   obtain ⟨n4, e4, _⟩ := DataW.trod_int Try.underlying3 g4
   simp at e0 e1 e2 e3 e4
   exact ⟨⟨n0, n1, n2, n3, n4⟩, by rw [e0, e1, e2, e3, e4]⟩
set_option maxRecDepth 100000 in
theorem open_S {a : Option Addr} {len cap : Nat} {d : DataW H} {ps : List MemPlace} {ts : List TypeId} {ds : List (DataW H)} {j : Nat}
  (hsz : (DataW.weightsEach Try.prog ts ds).all (· ≤ reachBytes) = true) (ht : ts[j]? = some 22) (hd : ds[j]? = some d)
  (h : DataW.Trod enc Try.prog w base spare held 22 (.slice a len cap) d ps) :
  ∃ l : List S43, len = l.length ∧ Kd.C k43 w a l.length l ∧ l.length ≤ cap ∧ l.length * 40 ≤ 140737488351232 := by
 obtain ⟨fuel, hf⟩ := h
 rcases open_slice Try.underlying22 hf with ⟨hcs, _⟩ | ⟨x, len', cap', m, n, D, Pl, hcs, _, hl, hcm, hm, hx, hi⟩
 ·simp [Value.cells] at hcs
  obtain ⟨rfl, rfl, rfl⟩ := hcs
  exact ⟨[], rfl, ⟨rfl, by simp, fun h => absurd h (by simp)⟩, Nat.le_refl _, by simp⟩
 ·simp [Value.cells] at hcs
  obtain ⟨rfl, rfl, rfl⟩ := hcs
  obtain ⟨hx1, _⟩ := Prod.mk.inj hx
  subst hx1
  have z := sized_slice hsz ht hd Try.underlying22
  rw [bytes43] at z
  have hlm : len ≤ m := by rw [hm]; split <;> omega
  have hit : ∀ i, i < len → ∃ y : S43, ∀ k u, [Value.int .i64 y.f0, .int .i64 y.f1, .int .i64 y.f2, .int .i64 y.f3, .int .i64 y.f4][k]? = some u → w.cell? (x.add (i * 5 + k)) = some u := fun i hil => by
   obtain ⟨cs', hc, htr⟩ := hi i (by omega)
   rw [cells43] at hc
   obtain ⟨y, rfl⟩ := item_open htr
   obtain ⟨_, _, hat⟩ := World.cells?_some hc
   refine ⟨y, fun k u hk => ?_⟩
   have hk5 : k < 5 := by
    have := (List.getElem?_eq_some_iff.1 hk).1
    simpa using this
   have := hat k hk5
   rw [hk, Go.Deep.add_add] at this
   exact this
  let f : Nat → S43 := fun i => if hil : i < len then (hit i hil).choose else z43
  have hfs : ∀ i, i < len → ∀ k u, [Value.int .i64 (f i).f0, .int .i64 (f i).f1, .int .i64 (f i).f2, .int .i64 (f i).f3, .int .i64 (f i).f4][k]? = some u → w.cell? (x.add (i * 5 + k)) = some u := fun i hil => by
   show ∀ k u, [Value.int .i64 (if hil : i < len then (hit i hil).choose else z43).f0, .int .i64 (if hil : i < len then (hit i hil).choose else z43).f1, .int .i64 (if hil : i < len then (hit i hil).choose else z43).f2, .int .i64 (if hil : i < len then (hit i hil).choose else z43).f3, .int .i64 (if hil : i < len then (hit i hil).choose else z43).f4][k]? = some u → _
   rw [dif_pos hil]
   exact (hit i hil).choose_spec
  have hll : ((List.range len).map f).length = len := by simp
  have hl40 : len * 40 ≤ 140737488351232 := by
   have h1 : ((List.range len).map D).length = len := by simp
   rw [h1] at z
   exact Nat.le_trans (Nat.mul_le_mul_right _ (by omega)) z
  refine ⟨(List.range len).map f, hll.symm, ⟨rfl, by rw [hll]; omega, fun _ => ⟨x, rfl, fun i p hp => ?_⟩⟩, by rw [hll]; exact hl, by rw [hll]; exact hl40⟩
  rw [List.getElem?_map] at hp
  obtain ⟨i', hi', rfl⟩ := Option.map_eq_some_iff.1 hp
  obtain ⟨hlt, rfl⟩ := List.getElem?_eq_some_iff.1 hi'
  simp only [List.length_range] at hlt
  simp only [List.getElem_range]
  exact ⟨_, rfl, k43_mk _ _, hfs i hlt⟩
end
end Go.Proofs.Ytbddfnmhhmkfkaa.Pr
namespace Go.Proofs.Ytbddfnmhhmkfkaa.Pr
open Go.RowKit Go.Proofs.YtbddfnmhhmkfkaaW.PrintWords Go.Proofs.YtbddfnmhhmkfkaaW.PrintLast Go.Proofs.YtbddfnmhhmkfkaaW.PrintMore
attribute [local go_sem] max2_int min2_int max_two min_two max_three min_three max_four min_four
set_option linter.unusedVariables false
set_option linter.unusedSimpArgs false
theorem info55 : (Try.prog.info? 55).map (fun i => (i.zero, i.size, i.bytes)) = some (some (.agg #[(.slice none 0 0), (.int .i64 0), (.int .i64 0)]), 3, 40) := by kernel_rfl
theorem info57 : (Try.prog.info? 57).map (fun i => (i.zero, i.size, i.bytes)) = some (some (.agg #[(.int .i64 0), (.int .u8 0), (.int .i64 0), (.int .i64 0)]), 4, 32) := by kernel_rfl
theorem info101 : (Try.prog.info? 101).map (fun i => (i.zero, i.size, i.bytes)) = some (some (.agg #[(.int .i64 0), (.int .u8 0), (.int .i64 0)]), 3, 24) := by kernel_rfl
structure S101 where
 f0 : Int
 f1 : Int
 f2 : Int
def z101 : S101 := ⟨(0 : Int), (0 : Int), (0 : Int)⟩
def k101 : Kd S101 := Kd.iso (Kd.pair (Kd.int .i64) (Kd.pair (Kd.int .u8) (Kd.int .i64))) (fun x : S101 => (x.f0, x.f1, x.f2))
theorem k101_open {w : World} {x : S101} {cs : List Value} (h : k101.K w x cs) : cs = [.int .i64 x.f0, .int .u8 x.f1, .int .i64 x.f2] := by
 obtain ⟨_, _, rfl, rfl, ⟨_, _, rfl, rfl, rfl⟩⟩ := h
 exact rfl
theorem k101_mkM (w : World) (base : Nat) (ok : Nat → Prop) (x : S101)  : k101.M w base ok x [.int .i64 x.f0, .int .u8 x.f1, .int .i64 x.f2] := ⟨[.int .i64 x.f0], [.int .u8 x.f1, .int .i64 x.f2], rfl, rfl, ⟨[.int .u8 x.f1], [.int .i64 x.f2], rfl, rfl, rfl⟩⟩
def rd_T101 (xs : List S101) (i : Int) : S101 := xs.getD i.toNat z101
theorem at_T101 {w : World} {A : Option Addr} {n : Nat} {xs : List S101} (h : Kd.C k101 w A n xs) (i : Int) (h0 : 0 ≤ i) (h1 : i < n) : ∃ ad , A = some ad ∧ w.cell? (ad.add (i.toNat * 3)) = some (.int .i64 (rd_T101 xs i).f0) ∧ w.cell? ⟨(ad.add (i.toNat * 3)).block, (ad.add (i.toNat * 3)).off + 1, none⟩ = some (.int .u8 (rd_T101 xs i).f1) ∧ w.cell? ⟨(ad.add (i.toNat * 3)).block, (ad.add (i.toNat * 3)).off + 2, none⟩ = some (.int .i64 (rd_T101 xs i).f2) := by
 obtain ⟨ad, c, e, _, hK, hc0⟩ := Kd.C_get h z101 i h0 h1
 have hc : ∀ j u, c[j]? = some u → w.cell? (ad.add (i.toNat * 3 + j)) = some u := hc0
 obtain rfl := k101_open hK
 exact ⟨ad, e, hc 0 _ rfl, by rw [← add_field _ _ 1 (by omega)]; exact hc 1 _ rfl, by rw [← add_field _ _ 2 (by omega)]; exact hc 2 _ rfl⟩
def rd_L7 (xs : List (List S101)) (i : Int) : (List S101) := xs.getD i.toNat ([] : List S101)
structure S57 where
 f0 : Int
 f1 : Int
 f2 : Int
 f3 : Int
def z57 : S57 := ⟨(0 : Int), (0 : Int), (0 : Int), (0 : Int)⟩
def k57 : Kd S57 := Kd.iso (Kd.pair (Kd.int .i64) (Kd.pair (Kd.int .u8) (Kd.pair (Kd.int .i64) (Kd.int .i64)))) (fun x : S57 => (x.f0, x.f1, x.f2, x.f3))
theorem k57_open {w : World} {x : S57} {cs : List Value} (h : k57.K w x cs) : cs = [.int .i64 x.f0, .int .u8 x.f1, .int .i64 x.f2, .int .i64 x.f3] := by
 obtain ⟨_, _, rfl, rfl, ⟨_, _, rfl, rfl, ⟨_, _, rfl, rfl, rfl⟩⟩⟩ := h
 exact rfl
theorem k57_mkM (w : World) (base : Nat) (ok : Nat → Prop) (x : S57)  : k57.M w base ok x [.int .i64 x.f0, .int .u8 x.f1, .int .i64 x.f2, .int .i64 x.f3] := ⟨[.int .i64 x.f0], [.int .u8 x.f1, .int .i64 x.f2, .int .i64 x.f3], rfl, rfl, ⟨[.int .u8 x.f1], [.int .i64 x.f2, .int .i64 x.f3], rfl, rfl, ⟨[.int .i64 x.f2], [.int .i64 x.f3], rfl, rfl, rfl⟩⟩⟩
def rd_T57 (xs : List S57) (i : Int) : S57 := xs.getD i.toNat z57
theorem at_T57 {w : World} {A : Option Addr} {n : Nat} {xs : List S57} (h : Kd.C k57 w A n xs) (i : Int) (h0 : 0 ≤ i) (h1 : i < n) : ∃ ad , A = some ad ∧ w.cell? (ad.add (i.toNat * 4)) = some (.int .i64 (rd_T57 xs i).f0) ∧ w.cell? ⟨(ad.add (i.toNat * 4)).block, (ad.add (i.toNat * 4)).off + 1, none⟩ = some (.int .u8 (rd_T57 xs i).f1) ∧ w.cell? ⟨(ad.add (i.toNat * 4)).block, (ad.add (i.toNat * 4)).off + 2, none⟩ = some (.int .i64 (rd_T57 xs i).f2) ∧ w.cell? ⟨(ad.add (i.toNat * 4)).block, (ad.add (i.toNat * 4)).off + 3, none⟩ = some (.int .i64 (rd_T57 xs i).f3) := by
 obtain ⟨ad, c, e, _, hK, hc0⟩ := Kd.C_get h z57 i h0 h1
 have hc : ∀ j u, c[j]? = some u → w.cell? (ad.add (i.toNat * 4 + j)) = some u := hc0
 obtain rfl := k57_open hK
 exact ⟨ad, e, hc 0 _ rfl, by rw [← add_field _ _ 1 (by omega)]; exact hc 1 _ rfl, by rw [← add_field _ _ 2 (by omega)]; exact hc 2 _ rfl, by rw [← add_field _ _ 3 (by omega)]; exact hc 3 _ rfl⟩
def rd_L9 (xs : List (List S57)) (i : Int) : (List S57) := xs.getD i.toNat ([] : List S57)
structure S55 where
 f0 : (List S57)
 f1 : Int
 f2 : Int
def z55 : S55 := ⟨([] : List S57), (0 : Int), (0 : Int)⟩
def k55 : Kd S55 := Kd.iso (Kd.pair (Kd.slice 57 k57) (Kd.pair (Kd.int .i64) (Kd.int .i64))) (fun x : S55 => (x.f0, x.f1, x.f2))
theorem k55_open {w : World} {x : S55} {cs : List Value} (h : k55.K w x cs) : ∃ A0 c0, cs = [.slice A0 x.f0.length c0, .int .i64 x.f1, .int .i64 x.f2] ∧ x.f0.length ≤ c0 ∧ k57.C w A0 x.f0.length x.f0 := by
 obtain ⟨_, _, rfl, ⟨A0, c0, rfl, l0, g0⟩, ⟨_, _, rfl, rfl, rfl⟩⟩ := h
 exact ⟨A0, c0, rfl, l0, g0⟩
theorem k55_openM {w : World} {base : Nat} {ok : Nat → Prop} {x : S55} {cs : List Value} (h : k55.M w base ok x cs) : ∃ v0, cs = [v0, .int .i64 x.f1, .int .i64 x.f2] ∧ k57.R 57 w base ok v0 x.f0 := by
 obtain ⟨_, _, rfl, ⟨v0, rfl, g0⟩, ⟨_, _, rfl, rfl, rfl⟩⟩ := h
 exact ⟨v0, rfl, g0⟩
theorem k55_mkM (w : World) (base : Nat) (ok : Nat → Prop) (x : S55) {v0 : Value} (g0 : k57.R 57 w base ok v0 x.f0) : k55.M w base ok x [v0, .int .i64 x.f1, .int .i64 x.f2] := ⟨[v0], [.int .i64 x.f1, .int .i64 x.f2], rfl, ⟨v0, rfl, g0⟩, ⟨[.int .i64 x.f1], [.int .i64 x.f2], rfl, rfl, rfl⟩⟩
def rd_T55 (xs : List S55) (i : Int) : S55 := xs.getD i.toNat z55
theorem at_T55 {w : World} {A : Option Addr} {n : Nat} {xs : List S55} (h : Kd.C k55 w A n xs) (i : Int) (h0 : 0 ≤ i) (h1 : i < n) : ∃ ad A0 c0, A = some ad ∧ w.cell? (ad.add (i.toNat * 3)) = some (.slice A0 (rd_T55 xs i).f0.length c0) ∧ w.cell? ⟨(ad.add (i.toNat * 3)).block, (ad.add (i.toNat * 3)).off + 1, none⟩ = some (.int .i64 (rd_T55 xs i).f1) ∧ w.cell? ⟨(ad.add (i.toNat * 3)).block, (ad.add (i.toNat * 3)).off + 2, none⟩ = some (.int .i64 (rd_T55 xs i).f2) ∧ (rd_T55 xs i).f0.length ≤ c0 ∧ k57.C w A0 (rd_T55 xs i).f0.length (rd_T55 xs i).f0 := by
 obtain ⟨ad, c, e, _, hK, hc0⟩ := Kd.C_get h z55 i h0 h1
 have hc : ∀ j u, c[j]? = some u → w.cell? (ad.add (i.toNat * 3 + j)) = some u := hc0
 obtain ⟨A0, c0, rfl, l0, g0⟩ := k55_open hK
 exact ⟨ad, A0, c0, e, hc 0 _ rfl, by rw [← add_field _ _ 1 (by omega)]; exact hc 1 _ rfl, by rw [← add_field _ _ 2 (by omega)]; exact hc 2 _ rfl, l0, g0⟩
def rd_L11 (xs : List (List S55)) (i : Int) : (List S55) := xs.getD i.toNat ([] : List S55)
end Go.Proofs.Ytbddfnmhhmkfkaa.Pr
namespace Go.Proofs.Ytbddfnmhhmkfkaa.Pr
open Go.RowKit Go.Proofs.YtbddfnmhhmkfkaaW.PrintWords Go.Proofs.YtbddfnmhhmkfkaaW.PrintLast Go.Proofs.YtbddfnmhhmkfkaaW.PrintMore
set_option linter.unusedVariables false
set_option linter.unusedSimpArgs false
def abcT : List S101 := [⟨1, 97, 0⟩, ⟨1, 32, 0⟩, ⟨1, 98, 0⟩, ⟨1, 32, 0⟩, ⟨1, 99, 0⟩]
def abcI : List S43 := [⟨1, 10, 0, 0, 0⟩, ⟨2, 10, 5, 5, 1⟩, ⟨1, 10, 0, 0, 2⟩, ⟨2, 10, 5, 5, 3⟩, ⟨1, 10, 0, 0, 4⟩]
def s20_abc.f (k : Nat) : Option (List S101 × List S43) := some (abcT, abcI)
theorem s20_abc.mono : ∀ k, LeO (s20_abc.f k ) (s20_abc.f (k + 1) ) := fun _ => LeO.refl _
set_option maxRecDepth 100000 in
set_option maxHeartbeats 4000000 in
theorem s20_abc.calls (k : Nat) (r1 : List (S101)) (r2 : List (S43)) (w : World) (h : s20_abc.f k = some (r1, r2)) :
  Calls Try.prog 79 #[] w fun e w' => ∃ v0_ v1_ : Value, e = .returned (.tuple #[v0_, v1_]) ∧ Kd.R k101 101 w' w.heap.size (fun _ => True) v0_ r1 ∧ Kd.R k43 43 w' w.heap.size (fun _ => True) v1_ r2 ∧ Below w.heap.size w w' := by
 have h1 : abcT = r1 := congrArg (fun p => p.1) (Option.some.inj h)
 have h2 : abcI = r2 := congrArg (fun p => p.2) (Option.some.inj h)
 have H1 := Lib.hid h1
 have H2 := Lib.hid h2
 clear h h1 h2
 go_enter Try.func79, Try.ntmps79
 go_wp2_with fail
 go_loopw [2, 3, 4] (fun v2 v3 v4 wr => ∃ (k : Nat), v4 = .int .i64 k ∧ k ≤ 5 ∧ Aside0 (Kd.R k101 101 wr w.heap.size (fun _ => True) v2 (abcT.take k)) ∧ Aside0 (Kd.R k43 43 wr w.heap.size (fun _ => True) v3 (abcI.take k)) ∧ Aside0 (Below w.heap.size w wr)) (fun _ _ v _ => 5 - (intOf v).toNat)
 case atStart => exact ⟨0, rfl, by omega, ⟨Kd.R_nil _ _ _ _ _⟩, ⟨Kd.R_nil _ _ _ _ _⟩, ⟨Below.refl _ _⟩⟩
 case round =>
  obtain ⟨k, rfl, hk, HT, HI, HB⟩ := hrel
  rcases (show k = 5 ∨ k = 0 ∨ k = 1 ∨ k = 2 ∨ k = 3 ∨ k = 4 by omega) with rfl | rfl | rfl | rfl | rfl | rfl
  ·go_wp2
   go_ret2
   exact ⟨_, _, rfl, by rw [← H1.out]; exact HT.out, by rw [← H2.out]; exact HI.out, HB.out⟩
  ·go_wp2_with (at_builtin; refine Kd.R_append k101 (w0 := w) w.heap.size rfl (.tmp 10) (.tmp 14) 44 101 (.agg #[(.int .i64 0), (.int .u8 0), (.int .i64 0)]) 24 rfl Try.underlying44 info101 rfl (by decide) (by omega) u2 (abcT.take 0) (⟨1, 97, 0⟩ : S101) [.int .i64 1, .int .u8 97, .int .i64 0] (fun _ => True) (fun _ => False) rfl rfl (k101_mkM _ _ _ (⟨1, 97, 0⟩ : S101)) (fun _ hk => hk.elim) (fun _ _ => trivial) HT.out HB.out HB.out.size ?aL0 ?aN0)
   case aL0 => simp [abcT]
   case aN0 =>
    intro v1 w1 ho hb hg hat
    have HI1 := Aside0.mk (Kd.R_over' HI.out (Kd.R_typed HT.out) (by decide) hg)
    have HT1 : Aside0 (Kd.R k101 101 w1 w.heap.size (fun _ => True) v1 (abcT.take (0 + 1))) := Aside0.mk ho
    have HB1 := Aside0.mk hb
    clear HI HT HB ho hb hg hat
    go_wp2_with (at_builtin; refine Kd.R_append k43 (w0 := w) w.heap.size rfl (.tmp 23) (.tmp 25) 22 43 (.agg #[(.int .i64 0), (.int .i64 0), (.int .i64 0), (.int .i64 0), (.int .i64 0)]) 40 rfl Try.underlying22 info43 rfl (by decide) (by omega) u3 (abcI.take 0) (⟨1, 10, 0, 0, 0⟩ : S43) [.int .i64 1, .int .i64 10, .int .i64 0, .int .i64 0, .int .i64 0] (fun _ => True) (fun _ => False) rfl (by first | (go_simp; done) | (go_simp; rfl)) (k43_mkM _ _ _ (⟨1, 10, 0, 0, 0⟩ : S43)) (fun _ hk => hk.elim) (fun _ _ => trivial) (Kd.R_alloc HI1.out _) (HB1.out.alloc HB1.out.size _) (by have := HB1.out.size; simp; omega) ?bL0 ?bN0)
    case bL0 => simp [abcI]
    case bN0 =>
     intro v2 w2 ho hb hg hat
     have HT2 := Aside0.mk (Kd.R_over' (Kd.R_alloc HT1.out _) (Kd.R_typed (Kd.R_alloc HI1.out _)) (by decide) hg)
     have HI2 : Aside0 (Kd.R k43 43 w2 w.heap.size (fun _ => True) v2 (abcI.take (0 + 1))) := Aside0.mk ho
     have HB2 := Aside0.mk hb
     clear HI1 HT1 HB1 ho hb hg hat
     go_wp2
     refine ⟨⟨0 + 1, by simp, by omega, HT2, HI2, HB2⟩, by simp [intOf]⟩
  ·go_wp2_with (at_builtin; refine Kd.R_append k101 (w0 := w) w.heap.size rfl (.tmp 10) (.tmp 14) 44 101 (.agg #[(.int .i64 0), (.int .u8 0), (.int .i64 0)]) 24 rfl Try.underlying44 info101 rfl (by decide) (by omega) u2 (abcT.take 1) (⟨1, 32, 0⟩ : S101) [.int .i64 1, .int .u8 32, .int .i64 0] (fun _ => True) (fun _ => False) rfl rfl (k101_mkM _ _ _ (⟨1, 32, 0⟩ : S101)) (fun _ hk => hk.elim) (fun _ _ => trivial) HT.out HB.out HB.out.size ?aL1 ?aN1)
   case aL1 => simp [abcT]
   case aN1 =>
    intro v1 w1 ho hb hg hat
    have HI1 := Aside0.mk (Kd.R_over' HI.out (Kd.R_typed HT.out) (by decide) hg)
    have HT1 : Aside0 (Kd.R k101 101 w1 w.heap.size (fun _ => True) v1 (abcT.take (1 + 1))) := Aside0.mk ho
    have HB1 := Aside0.mk hb
    clear HI HT HB ho hb hg hat
    go_wp2_with (at_builtin; refine Kd.R_append k43 (w0 := w) w.heap.size rfl (.tmp 23) (.tmp 25) 22 43 (.agg #[(.int .i64 0), (.int .i64 0), (.int .i64 0), (.int .i64 0), (.int .i64 0)]) 40 rfl Try.underlying22 info43 rfl (by decide) (by omega) u3 (abcI.take 1) (⟨2, 10, 5, 5, 1⟩ : S43) [.int .i64 2, .int .i64 10, .int .i64 5, .int .i64 5, .int .i64 1] (fun _ => True) (fun _ => False) rfl (by first | (go_simp; done) | (go_simp; rfl)) (k43_mkM _ _ _ (⟨2, 10, 5, 5, 1⟩ : S43)) (fun _ hk => hk.elim) (fun _ _ => trivial) (Kd.R_alloc HI1.out _) (HB1.out.alloc HB1.out.size _) (by have := HB1.out.size; simp; omega) ?bL1 ?bN1)
    case bL1 => simp [abcI]
    case bN1 =>
     intro v2 w2 ho hb hg hat
     have HT2 := Aside0.mk (Kd.R_over' (Kd.R_alloc HT1.out _) (Kd.R_typed (Kd.R_alloc HI1.out _)) (by decide) hg)
     have HI2 : Aside0 (Kd.R k43 43 w2 w.heap.size (fun _ => True) v2 (abcI.take (1 + 1))) := Aside0.mk ho
     have HB2 := Aside0.mk hb
     clear HI1 HT1 HB1 ho hb hg hat
     go_wp2
     refine ⟨⟨1 + 1, by simp, by omega, HT2, HI2, HB2⟩, by simp [intOf]⟩
  ·go_wp2_with (at_builtin; refine Kd.R_append k101 (w0 := w) w.heap.size rfl (.tmp 10) (.tmp 14) 44 101 (.agg #[(.int .i64 0), (.int .u8 0), (.int .i64 0)]) 24 rfl Try.underlying44 info101 rfl (by decide) (by omega) u2 (abcT.take 2) (⟨1, 98, 0⟩ : S101) [.int .i64 1, .int .u8 98, .int .i64 0] (fun _ => True) (fun _ => False) rfl rfl (k101_mkM _ _ _ (⟨1, 98, 0⟩ : S101)) (fun _ hk => hk.elim) (fun _ _ => trivial) HT.out HB.out HB.out.size ?aL2 ?aN2)
   case aL2 => simp [abcT]
   case aN2 =>
    intro v1 w1 ho hb hg hat
    have HI1 := Aside0.mk (Kd.R_over' HI.out (Kd.R_typed HT.out) (by decide) hg)
    have HT1 : Aside0 (Kd.R k101 101 w1 w.heap.size (fun _ => True) v1 (abcT.take (2 + 1))) := Aside0.mk ho
    have HB1 := Aside0.mk hb
    clear HI HT HB ho hb hg hat
    go_wp2_with (at_builtin; refine Kd.R_append k43 (w0 := w) w.heap.size rfl (.tmp 23) (.tmp 25) 22 43 (.agg #[(.int .i64 0), (.int .i64 0), (.int .i64 0), (.int .i64 0), (.int .i64 0)]) 40 rfl Try.underlying22 info43 rfl (by decide) (by omega) u3 (abcI.take 2) (⟨1, 10, 0, 0, 2⟩ : S43) [.int .i64 1, .int .i64 10, .int .i64 0, .int .i64 0, .int .i64 2] (fun _ => True) (fun _ => False) rfl (by first | (go_simp; done) | (go_simp; rfl)) (k43_mkM _ _ _ (⟨1, 10, 0, 0, 2⟩ : S43)) (fun _ hk => hk.elim) (fun _ _ => trivial) (Kd.R_alloc HI1.out _) (HB1.out.alloc HB1.out.size _) (by have := HB1.out.size; simp; omega) ?bL2 ?bN2)
    case bL2 => simp [abcI]
    case bN2 =>
     intro v2 w2 ho hb hg hat
     have HT2 := Aside0.mk (Kd.R_over' (Kd.R_alloc HT1.out _) (Kd.R_typed (Kd.R_alloc HI1.out _)) (by decide) hg)
     have HI2 : Aside0 (Kd.R k43 43 w2 w.heap.size (fun _ => True) v2 (abcI.take (2 + 1))) := Aside0.mk ho
     have HB2 := Aside0.mk hb
     clear HI1 HT1 HB1 ho hb hg hat
     go_wp2
     refine ⟨⟨2 + 1, by simp, by omega, HT2, HI2, HB2⟩, by simp [intOf]⟩
  ·go_wp2_with (at_builtin; refine Kd.R_append k101 (w0 := w) w.heap.size rfl (.tmp 10) (.tmp 14) 44 101 (.agg #[(.int .i64 0), (.int .u8 0), (.int .i64 0)]) 24 rfl Try.underlying44 info101 rfl (by decide) (by omega) u2 (abcT.take 3) (⟨1, 32, 0⟩ : S101) [.int .i64 1, .int .u8 32, .int .i64 0] (fun _ => True) (fun _ => False) rfl rfl (k101_mkM _ _ _ (⟨1, 32, 0⟩ : S101)) (fun _ hk => hk.elim) (fun _ _ => trivial) HT.out HB.out HB.out.size ?aL3 ?aN3)
   case aL3 => simp [abcT]
   case aN3 =>
    intro v1 w1 ho hb hg hat
    have HI1 := Aside0.mk (Kd.R_over' HI.out (Kd.R_typed HT.out) (by decide) hg)
    have HT1 : Aside0 (Kd.R k101 101 w1 w.heap.size (fun _ => True) v1 (abcT.take (3 + 1))) := Aside0.mk ho
    have HB1 := Aside0.mk hb
    clear HI HT HB ho hb hg hat
    go_wp2_with (at_builtin; refine Kd.R_append k43 (w0 := w) w.heap.size rfl (.tmp 23) (.tmp 25) 22 43 (.agg #[(.int .i64 0), (.int .i64 0), (.int .i64 0), (.int .i64 0), (.int .i64 0)]) 40 rfl Try.underlying22 info43 rfl (by decide) (by omega) u3 (abcI.take 3) (⟨2, 10, 5, 5, 3⟩ : S43) [.int .i64 2, .int .i64 10, .int .i64 5, .int .i64 5, .int .i64 3] (fun _ => True) (fun _ => False) rfl (by first | (go_simp; done) | (go_simp; rfl)) (k43_mkM _ _ _ (⟨2, 10, 5, 5, 3⟩ : S43)) (fun _ hk => hk.elim) (fun _ _ => trivial) (Kd.R_alloc HI1.out _) (HB1.out.alloc HB1.out.size _) (by have := HB1.out.size; simp; omega) ?bL3 ?bN3)
    case bL3 => simp [abcI]
    case bN3 =>
     intro v2 w2 ho hb hg hat
     have HT2 := Aside0.mk (Kd.R_over' (Kd.R_alloc HT1.out _) (Kd.R_typed (Kd.R_alloc HI1.out _)) (by decide) hg)
     have HI2 : Aside0 (Kd.R k43 43 w2 w.heap.size (fun _ => True) v2 (abcI.take (3 + 1))) := Aside0.mk ho
     have HB2 := Aside0.mk hb
     clear HI1 HT1 HB1 ho hb hg hat
     go_wp2
     refine ⟨⟨3 + 1, by simp, by omega, HT2, HI2, HB2⟩, by simp [intOf]⟩
  ·go_wp2_with (at_builtin; refine Kd.R_append k101 (w0 := w) w.heap.size rfl (.tmp 10) (.tmp 14) 44 101 (.agg #[(.int .i64 0), (.int .u8 0), (.int .i64 0)]) 24 rfl Try.underlying44 info101 rfl (by decide) (by omega) u2 (abcT.take 4) (⟨1, 99, 0⟩ : S101) [.int .i64 1, .int .u8 99, .int .i64 0] (fun _ => True) (fun _ => False) rfl rfl (k101_mkM _ _ _ (⟨1, 99, 0⟩ : S101)) (fun _ hk => hk.elim) (fun _ _ => trivial) HT.out HB.out HB.out.size ?aL4 ?aN4)
   case aL4 => simp [abcT]
   case aN4 =>
    intro v1 w1 ho hb hg hat
    have HI1 := Aside0.mk (Kd.R_over' HI.out (Kd.R_typed HT.out) (by decide) hg)
    have HT1 : Aside0 (Kd.R k101 101 w1 w.heap.size (fun _ => True) v1 (abcT.take (4 + 1))) := Aside0.mk ho
    have HB1 := Aside0.mk hb
    clear HI HT HB ho hb hg hat
    go_wp2_with (at_builtin; refine Kd.R_append k43 (w0 := w) w.heap.size rfl (.tmp 23) (.tmp 25) 22 43 (.agg #[(.int .i64 0), (.int .i64 0), (.int .i64 0), (.int .i64 0), (.int .i64 0)]) 40 rfl Try.underlying22 info43 rfl (by decide) (by omega) u3 (abcI.take 4) (⟨1, 10, 0, 0, 4⟩ : S43) [.int .i64 1, .int .i64 10, .int .i64 0, .int .i64 0, .int .i64 4] (fun _ => True) (fun _ => False) rfl (by first | (go_simp; done) | (go_simp; rfl)) (k43_mkM _ _ _ (⟨1, 10, 0, 0, 4⟩ : S43)) (fun _ hk => hk.elim) (fun _ _ => trivial) (Kd.R_alloc HI1.out _) (HB1.out.alloc HB1.out.size _) (by have := HB1.out.size; simp; omega) ?bL4 ?bN4)
    case bL4 => simp [abcI]
    case bN4 =>
     intro v2 w2 ho hb hg hat
     have HT2 := Aside0.mk (Kd.R_over' (Kd.R_alloc HT1.out _) (Kd.R_typed (Kd.R_alloc HI1.out _)) (by decide) hg)
     have HI2 : Aside0 (Kd.R k43 43 w2 w.heap.size (fun _ => True) v2 (abcI.take (4 + 1))) := Aside0.mk ho
     have HB2 := Aside0.mk hb
     clear HI1 HT1 HB1 ho hb hg hat
     go_wp2
     refine ⟨⟨4 + 1, by simp, by omega, HT2, HI2, HB2⟩, by simp [intOf]⟩
end Go.Proofs.Ytbddfnmhhmkfkaa.Pr
namespace Go.Proofs.Ytbddfnmhhmkfkaa.Pr
open Go.RowKit Go.Proofs.YtbddfnmhhmkfkaaW.PrintWords Go.Proofs.YtbddfnmhhmkfkaaW.PrintLast Go.Proofs.YtbddfnmhhmkfkaaW.PrintMore
attribute [local go_sem] max2_int min2_int max_two min_two max_three min_three max_four min_four
set_option linter.unusedVariables false
set_option linter.unusedSimpArgs false
def lines_bit.f (a0 : Bool) (a1 : Int) : Option (Int) := if a0 = true then (if 0 ≤ a1 then (some (shl .i64 1 a1)) else (none)) else (some 0)
set_option maxHeartbeats 8000000 in
set_option maxRecDepth 100000 in
theorem lines_bit.calls (a0 : Bool) (a1 : Int) (r : Int) (w : World) (h : lines_bit.f a0 a1 = some r) :
  Calls Try.prog 86 #[.bool a0, .int .u64 a1] w fun e w' => e = .returned (.int .i64 r) ∧ Drawn0 w w' := by
 have H : (if a0 = true then (if 0 ≤ a1 then (some (shl .i64 1 a1)) else (none)) else (some 0)) = some r := h
 clear h
 by_cases c3 : a0 = true
 ·subst c3
  have H1 : (if 0 ≤ a1 then (some (shl .i64 1 a1)) else (none)) = some r := by rw [if_pos rfl] at H; exact H
  clear H
  have H := H1
  clear H1
  by_cases c4 : 0 ≤ a1
  ·rw [if_pos c4] at H
   have c4b0 := eq_true c4
   have c4b1 : decide (0 ≤ a1) = true := decide_eq_true c4
   clear c4
   obtain ⟨ji5, hji5⟩ : ∃ j_ : Int, (shl .i64 1 a1) = j_ := ⟨_, rfl⟩
   replace H : (some ji5) = some r := by first | (rw [hji5] at H; exact H) | (simp only [hji5] at H ⊢; exact H)
   have hji5_ : (IntKind.i64.wrap (1 * 2 ^ min a1.toNat 64)) = ji5 := hji5
   have hji5z : a1 ≤ 64 → (IntKind.i64.wrap (1 * 2 ^ a1.toNat)) = ji5 := shl_small hji5
   have hji5u : (IntKind.i64.wrap (2 ^ min a1.toNat 64)) = ji5 := by have h_ := hji5_; rw [Int.one_mul] at h_; exact h_
   have hji5v : a1 ≤ 64 → (IntKind.i64.wrap (2 ^ a1.toNat)) = ji5 := fun hle_ => by have h_ := hji5z hle_; rw [Int.one_mul] at h_; exact h_
   have hji5y : (wrap64 (1 * 2 ^ min a1.toNat 64)) = ji5 := (i64_w _).symm.trans hji5_
   have hji5x : a1 ≤ 64 → (wrap64 (1 * 2 ^ a1.toNat)) = ji5 := fun h_ => (i64_w _).symm.trans (hji5z h_)
   obtain rfl := Option.some.inj H
   go_enter Try.func86, Try.ntmps86
   go_wp2
   go_ret
   exact ⟨by first | rfl | (simp; done) | (simp only [← hji5] <;> (first | rfl | simp)) | (simp [*]; done), by repeat (first | exact Drawn0.refl _ | apply Drawn0.step)⟩
  ·rw [if_neg c4] at H
   exact absurd H (by simp)
 ·replace c3 := Bool.eq_false_iff.mpr c3
  subst c3
  have H1 : (some 0) = some r := by rw [if_neg (show ¬ (false = true) by decide)] at H; exact H
  clear H
  have H := H1
  clear H1
  obtain rfl := Option.some.inj H
  go_enter Try.func86, Try.ntmps86
  go_wp2
  go_ret
  exact ⟨by first | rfl | (simp; done) | (simp [*]; done), by repeat (first | exact Drawn0.refl _ | apply Drawn0.step)⟩
def s20_same.l0 : Nat → List Int → List Int → Int → Option (Bool)
 | 0, _, _, _ => none
 | k + 1, x0, x1, x5 => if x5 < (x0.length : Int) then (if 0 ≤ x5 then (if x5 < (x1.length : Int) then (if (rd x0 x5) = (rd x1 x5) then (s20_same.l0 k x0 x1 (wrap64 (x5 + 1))) else (some false)) else (none)) else (none)) else (some true)
def s20_same.f (k : Nat) (l0 : List Int) (l1 : List Int) : Option (Bool) := if (l0.length : Int) = (l1.length : Int) then (s20_same.l0 k l0 l1 0) else (some false)
theorem s20_same.mono_l : ∀ k, (∀ y0 y1 y2, LeO (s20_same.l0 k y0 y1 y2) (s20_same.l0 (k + 1) y0 y1 y2))
 | 0 => fun _ _ _ r h => by simp [s20_same.l0] at h
 | k + 1 => by
  have ih0 := s20_same.mono_l k
  ·intro y0 y1 y2
   unfold s20_same.l0
   repeat' first
   | (with_reducible exact ih0 _ _ _)
   | (with_reducible exact LeO.refl _)
   | (with_reducible exact LeO.none _)
   | (with_reducible refine LeO.ite ?_ ?_)
   | (with_reducible refine LeO.bind ?_ (fun _ => ?_))
   | exact ih0 _ _ _
   | exact LeO.none _
   | refine LeO.ite ?_ ?_
   | refine LeO.bind ?_ (fun _ => ?_)
theorem s20_same.mono : ∀ a0 a1 k, LeO (s20_same.f k a0 a1) (s20_same.f (k + 1) a0 a1) := by
 intro a0 a1 k
 have ih0 := s20_same.mono_l k
 unfold s20_same.f
 repeat' first
   | (with_reducible exact ih0 _ _ _)
   | (with_reducible exact LeO.refl _)
   | (with_reducible exact LeO.none _)
   | (with_reducible refine LeO.ite ?_ ?_)
   | (with_reducible refine LeO.bind ?_ (fun _ => ?_))
   | exact ih0 _ _ _
   | exact LeO.none _
   | refine LeO.ite ?_ ?_
   | refine LeO.bind ?_ (fun _ => ?_)
set_option maxHeartbeats 8000000 in
set_option maxRecDepth 100000 in
theorem s20_same.calls (k : Nat) (A0 : Option Addr) (c0 : Nat) (l0 : List Int) (A1 : Option Addr) (c1 : Nat) (l1 : List Int) (r : Bool) (w : World) (hr0 : Kd.C (Kd.int .i64) w A0 l0.length l0) (hc0 : l0.length ≤ c0) (hr1 : Kd.C (Kd.int .i64) w A1 l1.length l1) (hc1 : l1.length ≤ c1) (h : s20_same.f k l0 l1 = some r) :
  Calls Try.prog 29 #[.slice A0 l0.length c0, .slice A1 l1.length c1] w fun e w' => e = .returned (.bool r) ∧ Drawn0 w w' := by
 have HR0 := Aside0.mk hr0
 have HC0 := Aside0.mk hc0
 clear hr0 hc0
 have HR1 := Aside0.mk hr1
 have HC1 := Aside0.mk hc1
 clear hr1 hc1
 have H : (if (l0.length : Int) = (l1.length : Int) then (s20_same.l0 k l0 l1 0) else (some false)) = some r := h
 clear h
 by_cases c3 : (l0.length : Int) = (l1.length : Int)
 ·rw [if_pos c3] at H
  have c3b0 : ((l0.length : Int) == (l1.length : Int)) = true := beq_iff_eq.mpr c3
  have c3b1 : ((l0.length : Int) != (l1.length : Int)) = false := bne_eq_false_iff_eq.mpr c3
  have c3b2 : (l0.length == l1.length) = true := by first | simpa using c3 | (simp at c3 ⊢; omega)
  clear c3
  have H' := Aside0.mk H
  clear H
  go_enter Try.func29, Try.ntmps29
  go_wp2
  repeat (go_quiet (fail); try go_wp2)
  go_loopg [5] k (fun kq v5 w' => ∃ (x5_1 : Int), v5 = .int .i64 x5_1 ∧ Aside0 (s20_same.l0 kq l0 l1 x5_1 = some r) ∧ Aside0 (kq ≤ k) ∧ Drawn0 w w')
  case atStart => exact ⟨(0), (by first | rfl | (simp; done) | (simp [*]; done)), H', ⟨Nat.le_refl _⟩, by repeat (first | exact Drawn0.refl _ | apply Drawn0.step)⟩
  case round =>
   clear H'
   try clear c1
   try clear c2
   try clear p2
   try clear c3
   try clear c3b0
   try clear c3b1
   try clear c3b2
   obtain ⟨x5_1, rfl, HA, HK1, ⟨m1, rfl⟩⟩ := hrel
   cases gk with
   | zero => exact absurd HA.out (by simp [s20_same.l0])
   | succ k1 =>
    have H := HA.out
    clear HA
    simp only [s20_same.l0] at H
    by_cases c4 : x5_1 < (l0.length : Int)
    ·rw [if_pos c4] at H
     have c4b0 : decide (x5_1 < (l0.length : Int)) = true := decide_eq_true c4
     clear c4
     by_cases c5 : 0 ≤ x5_1
     ·rw [if_pos c5] at H
      have c5b0 : decide (0 ≤ x5_1) = true := decide_eq_true c5
      clear c5
      by_cases c6 : x5_1 < (l1.length : Int)
      ·rw [if_pos c6] at H
       have c6b0 : decide (x5_1 < (l1.length : Int)) = true := decide_eq_true c6
       clear c6
       by_cases c7 : (rd l0 x5_1) = (rd l1 x5_1)
       ·rw [if_pos c7] at H
        have c7b0 : ((rd l0 x5_1) == (rd l1 x5_1)) = true := beq_iff_eq.mpr c7
        have c7b1 : ((rd l0 x5_1) != (rd l1 x5_1)) = false := bne_eq_false_iff_eq.mpr c7
        clear c7
        have H' := Aside0.mk H
        clear H
        have p427 : 0 ≤ (x5_1 : Int) := of_decide_eq_true (by first | (with_reducible assumption) | assumption)
        have q427 : x5_1 < (l0.length : Int) := of_decide_eq_true (by first | (with_reducible assumption) | assumption)
        obtain ⟨ad427, e427, hx427_0⟩ := Kd.at_int HR0.out x5_1 p427 q427
        cases e427
        replace p427 := eq_true p427
        replace q427 := eq_true q427
        have p428 : 0 ≤ (x5_1 : Int) := of_decide_eq_true (by first | (with_reducible assumption) | assumption)
        have q428 : x5_1 < (l1.length : Int) := of_decide_eq_true (by first | (with_reducible assumption) | assumption)
        obtain ⟨ad428, e428, hx428_0⟩ := Kd.at_int HR1.out x5_1 p428 q428
        cases e428
        replace p428 := eq_true p428
        replace q428 := eq_true q428
        go_wp2
        repeat (go_quiet (fail); try go_wp2)
        go_roundg k1
        case measure => have := HK1.out; omega
        case rel => exact ⟨(wrap64 (x5_1 + 1)), (by first | rfl | (simp; done) | (simp [*]; done)), H', ⟨by have := HK1.out; omega⟩, by repeat (first | exact Drawn0.refl _ | apply Drawn0.step)⟩
       ·rw [if_neg c7] at H
        have c7b0 : ((rd l0 x5_1) == (rd l1 x5_1)) = false := beq_eq_false_iff_ne.mpr c7
        have c7b1 : ((rd l0 x5_1) != (rd l1 x5_1)) = true := bne_iff_ne.mpr c7
        obtain rfl := Option.some.inj H
        have p427 : 0 ≤ (x5_1 : Int) := of_decide_eq_true (by first | (with_reducible assumption) | assumption)
        have q427 : x5_1 < (l0.length : Int) := of_decide_eq_true (by first | (with_reducible assumption) | assumption)
        obtain ⟨ad427, e427, hx427_0⟩ := Kd.at_int HR0.out x5_1 p427 q427
        cases e427
        replace p427 := eq_true p427
        replace q427 := eq_true q427
        have p428 : 0 ≤ (x5_1 : Int) := of_decide_eq_true (by first | (with_reducible assumption) | assumption)
        have q428 : x5_1 < (l1.length : Int) := of_decide_eq_true (by first | (with_reducible assumption) | assumption)
        obtain ⟨ad428, e428, hx428_0⟩ := Kd.at_int HR1.out x5_1 p428 q428
        cases e428
        replace p428 := eq_true p428
        replace q428 := eq_true q428
        go_wp2
        repeat (go_quiet (fail); try go_wp2)
        go_ret
        exact ⟨by first | rfl | (simp; done) | (simp [*]; done), by repeat (first | exact Drawn0.refl _ | apply Drawn0.step)⟩
      ·rw [if_neg c6] at H
       exact absurd H (by simp)
     ·rw [if_neg c5] at H
      exact absurd H (by simp)
    ·rw [if_neg c4] at H
     have c4b0 : decide (x5_1 < (l0.length : Int)) = false := decide_eq_false c4
     clear c4
     obtain rfl := Option.some.inj H
     go_wp2
     repeat (go_quiet (fail); try go_wp2)
     go_ret
     exact ⟨by first | rfl | (simp; done) | (simp [*]; done), by repeat (first | exact Drawn0.refl _ | apply Drawn0.step)⟩
 ·rw [if_neg c3] at H
  have c3b0 : ((l0.length : Int) == (l1.length : Int)) = false := beq_eq_false_iff_ne.mpr c3
  have c3b1 : ((l0.length : Int) != (l1.length : Int)) = true := bne_iff_ne.mpr c3
  have c3b2 : (l0.length == l1.length) = false := by first | simpa using c3 | (simp at c3 ⊢; omega)
  obtain rfl := Option.some.inj H
  go_enter Try.func29, Try.ntmps29
  go_wp2
  repeat (go_quiet (fail); try go_wp2)
  go_ret
  exact ⟨by first | rfl | (simp; done) | (simp [*]; done), by repeat (first | exact Drawn0.refl _ | apply Drawn0.step)⟩
def lines_wide.f (a0_0 : Int) (a0_1 : Int) (a0_2 : Int) (a0_3 : Int) (a0_4 : Int) : Option (Int) := if a0_0 = 3 then (some 0) else (some a0_1)
set_option maxHeartbeats 8000000 in
set_option maxRecDepth 100000 in
theorem lines_wide.calls (a0_0 : Int) (a0_1 : Int) (a0_2 : Int) (a0_3 : Int) (a0_4 : Int) (r : Int) (w : World) (h : lines_wide.f a0_0 a0_1 a0_2 a0_3 a0_4 = some r) :
  Calls Try.prog 81 #[.agg #[.int .i64 a0_0, .int .i64 a0_1, .int .i64 a0_2, .int .i64 a0_3, .int .i64 a0_4]] w fun e w' => e = .returned (.int .i64 r) ∧ Below w.heap.size w w' := by
 have hu43 := Try.underlying43
 have HB := Aside0.mk (Below.refl w.heap.size w)
 have H : (if a0_0 = 3 then (some 0) else (some a0_1)) = some r := h
 clear h
 by_cases c2 : a0_0 = 3
 ·rw [if_pos c2] at H
  have c2b0 : (a0_0 == 3) = true := beq_iff_eq.mpr c2
  have c2b1 : (a0_0 != 3) = false := bne_eq_false_iff_eq.mpr c2
  clear c2
  obtain rfl := Option.some.inj H
  go_enter Try.func81, Try.ntmps81
  go_wp2_with (first | ((with_reducible refine gate_dst (N := 1) rfl ?_); refine box_event ?hg (N := 1) ?hd (cs := #[.int .i64 a0_0, .int .i64 a0_1, .int .i64 a0_2, .int .i64 a0_3, .int .i64 a0_4]) (t := 43) ?hr ?_; (case hd => rfl); (case hg => rfl); (case hr => first | (go_simp; done) | (go_simp; rfl)); intro gb389 hg w3 hbox hb; have n0_ := Aside0.mk (below_step (by repeat (first | (with_reducible first | exact HB.out | apply below_alloc | apply pw_below_drewN | apply below_drew1) | exact HB.out)) hb); have n1_ := Aside0.mk (hbox); have n2_ := Aside0.mk ((by rw [hg]; exact (below_size (by repeat (first | (with_reducible first | exact HB.out | apply below_alloc | apply pw_below_drewN | apply below_drew1) | exact HB.out))) : w.heap.size ≤ gb389)); have n3_ := Aside0.mk ((by rw [hg]; exact (below_size (by repeat (first | (with_reducible first | exact HB.out | apply below_alloc | apply pw_below_drewN | apply below_drew1) | exact HB.out))) : w.heap.size ≤ gb389)); clear HB; have HB := n0_; have BK389 := n1_; have GW389 := n2_; have GE389 := n3_; clear n0_ n1_ n2_ n3_; clear hb hbox hg; have hcz4_0 : w3.cell? ⟨gb389, 0, none⟩ = some (.int .i64 a0_0) := (blk_cell BK389.out 0).trans rfl; have hcz4_1 : w3.cell? ⟨gb389, 1, none⟩ = some (.int .i64 a0_1) := (blk_cell BK389.out 1).trans rfl; have hcz4_2 : w3.cell? ⟨gb389, 2, none⟩ = some (.int .i64 a0_2) := (blk_cell BK389.out 2).trans rfl; have hcz4_3 : w3.cell? ⟨gb389, 3, none⟩ = some (.int .i64 a0_3) := (blk_cell BK389.out 3).trans rfl; have hcz4_4 : w3.cell? ⟨gb389, 4, none⟩ = some (.int .i64 a0_4) := (blk_cell BK389.out 4).trans rfl; have hfz4_0 := blk_frozen BK389.out 0; have hfz4_1 := blk_frozen BK389.out 1; have hfz4_2 := blk_frozen BK389.out 2; have hfz4_3 := blk_frozen BK389.out 3; have hfz4_4 := blk_frozen BK389.out 4))
  go_ret
  exact ⟨by first | rfl | (simp [errW_none, errW_some] <;> rfl) | (simp [*, errW_none, errW_some] <;> rfl), by repeat (first | (with_reducible first | exact HB.out | apply below_alloc | apply pw_below_drewN | apply below_drew1 | refine below_set ?_ GE389.out) | exact HB.out)⟩
 ·rw [if_neg c2] at H
  have c2b0 : (a0_0 == 3) = false := beq_eq_false_iff_ne.mpr c2
  have c2b1 : (a0_0 != 3) = true := bne_iff_ne.mpr c2
  obtain rfl := Option.some.inj H
  go_enter Try.func81, Try.ntmps81
  go_wp2_with (first | ((with_reducible refine gate_dst (N := 1) rfl ?_); refine box_event ?hg (N := 1) ?hd (cs := #[.int .i64 a0_0, .int .i64 a0_1, .int .i64 a0_2, .int .i64 a0_3, .int .i64 a0_4]) (t := 43) ?hr ?_; (case hd => rfl); (case hg => rfl); (case hr => first | (go_simp; done) | (go_simp; rfl)); intro gb389 hg w5 hbox hb; have n0_ := Aside0.mk (below_step (by repeat (first | (with_reducible first | exact HB.out | apply below_alloc | apply pw_below_drewN | apply below_drew1) | exact HB.out)) hb); have n1_ := Aside0.mk (hbox); have n2_ := Aside0.mk ((by rw [hg]; exact (below_size (by repeat (first | (with_reducible first | exact HB.out | apply below_alloc | apply pw_below_drewN | apply below_drew1) | exact HB.out))) : w.heap.size ≤ gb389)); have n3_ := Aside0.mk ((by rw [hg]; exact (below_size (by repeat (first | (with_reducible first | exact HB.out | apply below_alloc | apply pw_below_drewN | apply below_drew1) | exact HB.out))) : w.heap.size ≤ gb389)); clear HB; have HB := n0_; have BK389 := n1_; have GW389 := n2_; have GE389 := n3_; clear n0_ n1_ n2_ n3_; clear hb hbox hg; have hcz6_0 : w5.cell? ⟨gb389, 0, none⟩ = some (.int .i64 a0_0) := (blk_cell BK389.out 0).trans rfl; have hcz6_1 : w5.cell? ⟨gb389, 1, none⟩ = some (.int .i64 a0_1) := (blk_cell BK389.out 1).trans rfl; have hcz6_2 : w5.cell? ⟨gb389, 2, none⟩ = some (.int .i64 a0_2) := (blk_cell BK389.out 2).trans rfl; have hcz6_3 : w5.cell? ⟨gb389, 3, none⟩ = some (.int .i64 a0_3) := (blk_cell BK389.out 3).trans rfl; have hcz6_4 : w5.cell? ⟨gb389, 4, none⟩ = some (.int .i64 a0_4) := (blk_cell BK389.out 4).trans rfl; have hfz6_0 := blk_frozen BK389.out 0; have hfz6_1 := blk_frozen BK389.out 1; have hfz6_2 := blk_frozen BK389.out 2; have hfz6_3 := blk_frozen BK389.out 3; have hfz6_4 := blk_frozen BK389.out 4))
  go_ret
  exact ⟨by first | rfl | (simp [errW_none, errW_some] <;> rfl) | (simp [*, errW_none, errW_some] <;> rfl), by repeat (first | (with_reducible first | exact HB.out | apply below_alloc | apply pw_below_drewN | apply below_drew1 | refine below_set ?_ GE389.out) | exact HB.out)⟩
def lines_grows.f (a0_0 : Int) (a0_1 : Int) (a0_2 : Int) (a0_3 : Int) (a0_4 : Int) : Option (Int) := if a0_0 = 2 then (some a0_2) else (some 0)
set_option maxHeartbeats 8000000 in
set_option maxRecDepth 100000 in
theorem lines_grows.calls (a0_0 : Int) (a0_1 : Int) (a0_2 : Int) (a0_3 : Int) (a0_4 : Int) (r : Int) (w : World) (h : lines_grows.f a0_0 a0_1 a0_2 a0_3 a0_4 = some r) :
  Calls Try.prog 82 #[.agg #[.int .i64 a0_0, .int .i64 a0_1, .int .i64 a0_2, .int .i64 a0_3, .int .i64 a0_4]] w fun e w' => e = .returned (.int .i64 r) ∧ Below w.heap.size w w' := by
 have hu43 := Try.underlying43
 have HB := Aside0.mk (Below.refl w.heap.size w)
 have H : (if a0_0 = 2 then (some a0_2) else (some 0)) = some r := h
 clear h
 by_cases c2 : a0_0 = 2
 ·rw [if_pos c2] at H
  have c2b0 : (a0_0 == 2) = true := beq_iff_eq.mpr c2
  have c2b1 : (a0_0 != 2) = false := bne_eq_false_iff_eq.mpr c2
  clear c2
  obtain rfl := Option.some.inj H
  go_enter Try.func82, Try.ntmps82
  go_wp2_with (first | ((with_reducible refine gate_dst (N := 1) rfl ?_); refine box_event ?hg (N := 1) ?hd (cs := #[.int .i64 a0_0, .int .i64 a0_1, .int .i64 a0_2, .int .i64 a0_3, .int .i64 a0_4]) (t := 43) ?hr ?_; (case hd => rfl); (case hg => rfl); (case hr => first | (go_simp; done) | (go_simp; rfl)); intro gb390 hg w3 hbox hb; have n0_ := Aside0.mk (below_step (by repeat (first | (with_reducible first | exact HB.out | apply below_alloc | apply pw_below_drewN | apply below_drew1) | exact HB.out)) hb); have n1_ := Aside0.mk (hbox); have n2_ := Aside0.mk ((by rw [hg]; exact (below_size (by repeat (first | (with_reducible first | exact HB.out | apply below_alloc | apply pw_below_drewN | apply below_drew1) | exact HB.out))) : w.heap.size ≤ gb390)); have n3_ := Aside0.mk ((by rw [hg]; exact (below_size (by repeat (first | (with_reducible first | exact HB.out | apply below_alloc | apply pw_below_drewN | apply below_drew1) | exact HB.out))) : w.heap.size ≤ gb390)); clear HB; have HB := n0_; have BK390 := n1_; have GW390 := n2_; have GE390 := n3_; clear n0_ n1_ n2_ n3_; clear hb hbox hg; have hcz4_0 : w3.cell? ⟨gb390, 0, none⟩ = some (.int .i64 a0_0) := (blk_cell BK390.out 0).trans rfl; have hcz4_1 : w3.cell? ⟨gb390, 1, none⟩ = some (.int .i64 a0_1) := (blk_cell BK390.out 1).trans rfl; have hcz4_2 : w3.cell? ⟨gb390, 2, none⟩ = some (.int .i64 a0_2) := (blk_cell BK390.out 2).trans rfl; have hcz4_3 : w3.cell? ⟨gb390, 3, none⟩ = some (.int .i64 a0_3) := (blk_cell BK390.out 3).trans rfl; have hcz4_4 : w3.cell? ⟨gb390, 4, none⟩ = some (.int .i64 a0_4) := (blk_cell BK390.out 4).trans rfl; have hfz4_0 := blk_frozen BK390.out 0; have hfz4_1 := blk_frozen BK390.out 1; have hfz4_2 := blk_frozen BK390.out 2; have hfz4_3 := blk_frozen BK390.out 3; have hfz4_4 := blk_frozen BK390.out 4))
  go_ret
  exact ⟨by first | rfl | (simp [errW_none, errW_some] <;> rfl) | (simp [*, errW_none, errW_some] <;> rfl), by repeat (first | (with_reducible first | exact HB.out | apply below_alloc | apply pw_below_drewN | apply below_drew1 | refine below_set ?_ GE390.out) | exact HB.out)⟩
 ·rw [if_neg c2] at H
  have c2b0 : (a0_0 == 2) = false := beq_eq_false_iff_ne.mpr c2
  have c2b1 : (a0_0 != 2) = true := bne_iff_ne.mpr c2
  obtain rfl := Option.some.inj H
  go_enter Try.func82, Try.ntmps82
  go_wp2_with (first | ((with_reducible refine gate_dst (N := 1) rfl ?_); refine box_event ?hg (N := 1) ?hd (cs := #[.int .i64 a0_0, .int .i64 a0_1, .int .i64 a0_2, .int .i64 a0_3, .int .i64 a0_4]) (t := 43) ?hr ?_; (case hd => rfl); (case hg => rfl); (case hr => first | (go_simp; done) | (go_simp; rfl)); intro gb390 hg w5 hbox hb; have n0_ := Aside0.mk (below_step (by repeat (first | (with_reducible first | exact HB.out | apply below_alloc | apply pw_below_drewN | apply below_drew1) | exact HB.out)) hb); have n1_ := Aside0.mk (hbox); have n2_ := Aside0.mk ((by rw [hg]; exact (below_size (by repeat (first | (with_reducible first | exact HB.out | apply below_alloc | apply pw_below_drewN | apply below_drew1) | exact HB.out))) : w.heap.size ≤ gb390)); have n3_ := Aside0.mk ((by rw [hg]; exact (below_size (by repeat (first | (with_reducible first | exact HB.out | apply below_alloc | apply pw_below_drewN | apply below_drew1) | exact HB.out))) : w.heap.size ≤ gb390)); clear HB; have HB := n0_; have BK390 := n1_; have GW390 := n2_; have GE390 := n3_; clear n0_ n1_ n2_ n3_; clear hb hbox hg; have hcz6_0 : w5.cell? ⟨gb390, 0, none⟩ = some (.int .i64 a0_0) := (blk_cell BK390.out 0).trans rfl; have hcz6_1 : w5.cell? ⟨gb390, 1, none⟩ = some (.int .i64 a0_1) := (blk_cell BK390.out 1).trans rfl; have hcz6_2 : w5.cell? ⟨gb390, 2, none⟩ = some (.int .i64 a0_2) := (blk_cell BK390.out 2).trans rfl; have hcz6_3 : w5.cell? ⟨gb390, 3, none⟩ = some (.int .i64 a0_3) := (blk_cell BK390.out 3).trans rfl; have hcz6_4 : w5.cell? ⟨gb390, 4, none⟩ = some (.int .i64 a0_4) := (blk_cell BK390.out 4).trans rfl; have hfz6_0 := blk_frozen BK390.out 0; have hfz6_1 := blk_frozen BK390.out 1; have hfz6_2 := blk_frozen BK390.out 2; have hfz6_3 := blk_frozen BK390.out 3; have hfz6_4 := blk_frozen BK390.out 4))
  go_ret
  exact ⟨by first | rfl | (simp [errW_none, errW_some] <;> rfl) | (simp [*, errW_none, errW_some] <;> rfl), by repeat (first | (with_reducible first | exact HB.out | apply below_alloc | apply pw_below_drewN | apply below_drew1 | refine below_set ?_ GE390.out) | exact HB.out)⟩
def lines_shrinks.f (a0_0 : Int) (a0_1 : Int) (a0_2 : Int) (a0_3 : Int) (a0_4 : Int) : Option (Int) := if a0_0 = 2 then (some a0_3) else (some 0)
set_option maxHeartbeats 8000000 in
set_option maxRecDepth 100000 in
theorem lines_shrinks.calls (a0_0 : Int) (a0_1 : Int) (a0_2 : Int) (a0_3 : Int) (a0_4 : Int) (r : Int) (w : World) (h : lines_shrinks.f a0_0 a0_1 a0_2 a0_3 a0_4 = some r) :
  Calls Try.prog 83 #[.agg #[.int .i64 a0_0, .int .i64 a0_1, .int .i64 a0_2, .int .i64 a0_3, .int .i64 a0_4]] w fun e w' => e = .returned (.int .i64 r) ∧ Below w.heap.size w w' := by
 have hu43 := Try.underlying43
 have HB := Aside0.mk (Below.refl w.heap.size w)
 have H : (if a0_0 = 2 then (some a0_3) else (some 0)) = some r := h
 clear h
 by_cases c2 : a0_0 = 2
 ·rw [if_pos c2] at H
  have c2b0 : (a0_0 == 2) = true := beq_iff_eq.mpr c2
  have c2b1 : (a0_0 != 2) = false := bne_eq_false_iff_eq.mpr c2
  clear c2
  obtain rfl := Option.some.inj H
  go_enter Try.func83, Try.ntmps83
  go_wp2_with (first | ((with_reducible refine gate_dst (N := 1) rfl ?_); refine box_event ?hg (N := 1) ?hd (cs := #[.int .i64 a0_0, .int .i64 a0_1, .int .i64 a0_2, .int .i64 a0_3, .int .i64 a0_4]) (t := 43) ?hr ?_; (case hd => rfl); (case hg => rfl); (case hr => first | (go_simp; done) | (go_simp; rfl)); intro gb391 hg w3 hbox hb; have n0_ := Aside0.mk (below_step (by repeat (first | (with_reducible first | exact HB.out | apply below_alloc | apply pw_below_drewN | apply below_drew1) | exact HB.out)) hb); have n1_ := Aside0.mk (hbox); have n2_ := Aside0.mk ((by rw [hg]; exact (below_size (by repeat (first | (with_reducible first | exact HB.out | apply below_alloc | apply pw_below_drewN | apply below_drew1) | exact HB.out))) : w.heap.size ≤ gb391)); have n3_ := Aside0.mk ((by rw [hg]; exact (below_size (by repeat (first | (with_reducible first | exact HB.out | apply below_alloc | apply pw_below_drewN | apply below_drew1) | exact HB.out))) : w.heap.size ≤ gb391)); clear HB; have HB := n0_; have BK391 := n1_; have GW391 := n2_; have GE391 := n3_; clear n0_ n1_ n2_ n3_; clear hb hbox hg; have hcz4_0 : w3.cell? ⟨gb391, 0, none⟩ = some (.int .i64 a0_0) := (blk_cell BK391.out 0).trans rfl; have hcz4_1 : w3.cell? ⟨gb391, 1, none⟩ = some (.int .i64 a0_1) := (blk_cell BK391.out 1).trans rfl; have hcz4_2 : w3.cell? ⟨gb391, 2, none⟩ = some (.int .i64 a0_2) := (blk_cell BK391.out 2).trans rfl; have hcz4_3 : w3.cell? ⟨gb391, 3, none⟩ = some (.int .i64 a0_3) := (blk_cell BK391.out 3).trans rfl; have hcz4_4 : w3.cell? ⟨gb391, 4, none⟩ = some (.int .i64 a0_4) := (blk_cell BK391.out 4).trans rfl; have hfz4_0 := blk_frozen BK391.out 0; have hfz4_1 := blk_frozen BK391.out 1; have hfz4_2 := blk_frozen BK391.out 2; have hfz4_3 := blk_frozen BK391.out 3; have hfz4_4 := blk_frozen BK391.out 4))
  go_ret
  exact ⟨by first | rfl | (simp [errW_none, errW_some] <;> rfl) | (simp [*, errW_none, errW_some] <;> rfl), by repeat (first | (with_reducible first | exact HB.out | apply below_alloc | apply pw_below_drewN | apply below_drew1 | refine below_set ?_ GE391.out) | exact HB.out)⟩
 ·rw [if_neg c2] at H
  have c2b0 : (a0_0 == 2) = false := beq_eq_false_iff_ne.mpr c2
  have c2b1 : (a0_0 != 2) = true := bne_iff_ne.mpr c2
  obtain rfl := Option.some.inj H
  go_enter Try.func83, Try.ntmps83
  go_wp2_with (first | ((with_reducible refine gate_dst (N := 1) rfl ?_); refine box_event ?hg (N := 1) ?hd (cs := #[.int .i64 a0_0, .int .i64 a0_1, .int .i64 a0_2, .int .i64 a0_3, .int .i64 a0_4]) (t := 43) ?hr ?_; (case hd => rfl); (case hg => rfl); (case hr => first | (go_simp; done) | (go_simp; rfl)); intro gb391 hg w5 hbox hb; have n0_ := Aside0.mk (below_step (by repeat (first | (with_reducible first | exact HB.out | apply below_alloc | apply pw_below_drewN | apply below_drew1) | exact HB.out)) hb); have n1_ := Aside0.mk (hbox); have n2_ := Aside0.mk ((by rw [hg]; exact (below_size (by repeat (first | (with_reducible first | exact HB.out | apply below_alloc | apply pw_below_drewN | apply below_drew1) | exact HB.out))) : w.heap.size ≤ gb391)); have n3_ := Aside0.mk ((by rw [hg]; exact (below_size (by repeat (first | (with_reducible first | exact HB.out | apply below_alloc | apply pw_below_drewN | apply below_drew1) | exact HB.out))) : w.heap.size ≤ gb391)); clear HB; have HB := n0_; have BK391 := n1_; have GW391 := n2_; have GE391 := n3_; clear n0_ n1_ n2_ n3_; clear hb hbox hg; have hcz6_0 : w5.cell? ⟨gb391, 0, none⟩ = some (.int .i64 a0_0) := (blk_cell BK391.out 0).trans rfl; have hcz6_1 : w5.cell? ⟨gb391, 1, none⟩ = some (.int .i64 a0_1) := (blk_cell BK391.out 1).trans rfl; have hcz6_2 : w5.cell? ⟨gb391, 2, none⟩ = some (.int .i64 a0_2) := (blk_cell BK391.out 2).trans rfl; have hcz6_3 : w5.cell? ⟨gb391, 3, none⟩ = some (.int .i64 a0_3) := (blk_cell BK391.out 3).trans rfl; have hcz6_4 : w5.cell? ⟨gb391, 4, none⟩ = some (.int .i64 a0_4) := (blk_cell BK391.out 4).trans rfl; have hfz6_0 := blk_frozen BK391.out 0; have hfz6_1 := blk_frozen BK391.out 1; have hfz6_2 := blk_frozen BK391.out 2; have hfz6_3 := blk_frozen BK391.out 3; have hfz6_4 := blk_frozen BK391.out 4))
  go_ret
  exact ⟨by first | rfl | (simp [errW_none, errW_some] <;> rfl) | (simp [*, errW_none, errW_some] <;> rfl), by repeat (first | (with_reducible first | exact HB.out | apply below_alloc | apply pw_below_drewN | apply below_drew1 | refine below_set ?_ GE391.out) | exact HB.out)⟩
def lines_shows.j0 : Nat → List (S101) → Bool → Int → Int → Int → Int → Int → Option (Int × Bool)
 | 0, _, _, _, _, _, _, _ => none
 | k + 1, x0, x19, x393000, x393001, x393002, x393003, x393004 => if x19 = true then (some (0, false)) else (if 0 ≤ x393004 then (if x393004 < (x0.length : Int) then (if x393000 = 4 then (if ((rd_T101 x0 x393004).f0) = 2 then (some (42, (((rd_T101 x0 x393004).f1) == 110))) else (some (42, false))) else (some ((rd_T101 x0 x393004).f1, (((rd_T101 x0 x393004).f0) == 1)))) else (none)) else (none))
def lines_shows.f (k : Nat) (l0 : List (S101)) (a1_0 : Int) (a1_1 : Int) (a1_2 : Int) (a1_3 : Int) (a1_4 : Int) : Option (Int × Bool) := if a1_0 = 3 then (some (45, true)) else (if a1_4 < 0 then (lines_shows.j0 k l0 true a1_0 a1_1 a1_2 a1_3 a1_4) else (lines_shows.j0 k l0 (decide (a1_4 ≥ (l0.length : Int))) a1_0 a1_1 a1_2 a1_3 a1_4))
theorem lines_shows.mono_l : ∀ k, (∀ y0 y1 y2 y3 y4 y5 y6, LeO (lines_shows.j0 k y0 y1 y2 y3 y4 y5 y6) (lines_shows.j0 (k + 1) y0 y1 y2 y3 y4 y5 y6))
 | 0 => fun _ _ _ _ _ _ _ r h => by simp [lines_shows.j0] at h
 | k + 1 => by
  have ih0 := lines_shows.mono_l k
  ·intro y0 y1 y2 y3 y4 y5 y6
   unfold lines_shows.j0
   repeat' first
   | (with_reducible exact ih0 _ _ _ _ _ _ _)
   | (with_reducible exact LeO.refl _)
   | (with_reducible exact LeO.none _)
   | (with_reducible refine LeO.ite ?_ ?_)
   | (with_reducible refine LeO.bind ?_ (fun _ => ?_))
   | exact ih0 _ _ _ _ _ _ _
   | exact LeO.none _
   | refine LeO.ite ?_ ?_
   | refine LeO.bind ?_ (fun _ => ?_)
theorem lines_shows.mono : ∀ a0 a1 a2 a3 a4 a5 k, LeO (lines_shows.f k a0 a1 a2 a3 a4 a5) (lines_shows.f (k + 1) a0 a1 a2 a3 a4 a5) := by
 intro a0 a1 a2 a3 a4 a5 k
 have ih0 := lines_shows.mono_l k
 unfold lines_shows.f
 repeat' first
   | (with_reducible exact ih0 _ _ _ _ _ _ _)
   | (with_reducible exact LeO.refl _)
   | (with_reducible exact LeO.none _)
   | (with_reducible refine LeO.ite ?_ ?_)
   | (with_reducible refine LeO.bind ?_ (fun _ => ?_))
   | exact ih0 _ _ _ _ _ _ _
   | exact LeO.none _
   | refine LeO.ite ?_ ?_
   | refine LeO.bind ?_ (fun _ => ?_)
set_option maxHeartbeats 8000000 in
set_option maxRecDepth 100000 in
theorem lines_shows.calls (k : Nat) (A0 : Option Addr) (c0 : Nat) (l0 : List (S101)) (a1_0 : Int) (a1_1 : Int) (a1_2 : Int) (a1_3 : Int) (a1_4 : Int) (r1 : Int) (r2 : Bool) (w : World) (hr0 : Kd.C k101 w A0 l0.length l0) (hc0 : l0.length ≤ c0) (h : lines_shows.f k l0 a1_0 a1_1 a1_2 a1_3 a1_4 = some (r1, r2)) :
  Calls Try.prog 62 #[.slice A0 l0.length c0, .agg #[.int .i64 a1_0, .int .i64 a1_1, .int .i64 a1_2, .int .i64 a1_3, .int .i64 a1_4]] w fun e w' => e = .returned (.tuple #[.int .u8 r1, .bool r2]) ∧ Below w.heap.size w w' := by
 have hu43 := Try.underlying43
 have hu101 := Try.underlying101
 have HR0 := Aside0.mk hr0
 have HC0 := Aside0.mk hc0
 clear hr0 hc0
 have HB := Aside0.mk (Below.refl w.heap.size w)
 have H : (if a1_0 = 3 then (some (45, true)) else (if a1_4 < 0 then (lines_shows.j0 k l0 true a1_0 a1_1 a1_2 a1_3 a1_4) else (lines_shows.j0 k l0 (decide (a1_4 ≥ (l0.length : Int))) a1_0 a1_1 a1_2 a1_3 a1_4))) = some (r1, r2) := h
 clear h
 by_cases c3 : a1_0 = 3
 ·rw [if_pos c3] at H
  have c3b0 : (a1_0 == 3) = true := beq_iff_eq.mpr c3
  have c3b1 : (a1_0 != 3) = false := bne_eq_false_iff_eq.mpr c3
  clear c3
  simp only [Option.some.injEq, Prod.mk.injEq] at H
  obtain ⟨rfl, rfl⟩ := H
  go_enter Try.func62, Try.ntmps62
  go_wp2_with (first | ((with_reducible refine gate_dst (N := 3) rfl ?_); (try (refine gate_guard (by rfl) ?_; dsimp only)); refine box_event ?hg (N := 3) ?hd (cs := #[.int .i64 a1_0, .int .i64 a1_1, .int .i64 a1_2, .int .i64 a1_3, .int .i64 a1_4]) (t := 43) ?hr ?_; (case hd => rfl); (case hg => rfl); (case hr => first | (go_simp; done) | (go_simp; rfl)); intro gb392 hg w4 hbox hb; have n0_ := Aside0.mk (below_step (by repeat (first | (with_reducible first | exact HB.out | apply below_alloc | apply pw_below_drewN | apply below_drew1) | exact HB.out)) hb); have n1_ := Aside0.mk (hbox); have n2_ := Aside0.mk ((by rw [hg]; exact (below_size (by repeat (first | (with_reducible first | exact HB.out | apply below_alloc | apply pw_below_drewN | apply below_drew1) | exact HB.out))) : w.heap.size ≤ gb392)); have n3_ := Aside0.mk ((by rw [hg]; exact (below_size (by repeat (first | (with_reducible first | exact HB.out | apply below_alloc | apply pw_below_drewN | apply below_drew1) | exact HB.out))) : w.heap.size ≤ gb392)); clear HB; have HB := n0_; have BK392 := n1_; have GW392 := n2_; have GE392 := n3_; clear n0_ n1_ n2_ n3_; clear hb hbox hg; have hcz5_0 : w4.cell? ⟨gb392, 0, none⟩ = some (.int .i64 a1_0) := (blk_cell BK392.out 0).trans rfl; have hcz5_1 : w4.cell? ⟨gb392, 1, none⟩ = some (.int .i64 a1_1) := (blk_cell BK392.out 1).trans rfl; have hcz5_2 : w4.cell? ⟨gb392, 2, none⟩ = some (.int .i64 a1_2) := (blk_cell BK392.out 2).trans rfl; have hcz5_3 : w4.cell? ⟨gb392, 3, none⟩ = some (.int .i64 a1_3) := (blk_cell BK392.out 3).trans rfl; have hcz5_4 : w4.cell? ⟨gb392, 4, none⟩ = some (.int .i64 a1_4) := (blk_cell BK392.out 4).trans rfl; have hfz5_0 := blk_frozen BK392.out 0; have hfz5_1 := blk_frozen BK392.out 1; have hfz5_2 := blk_frozen BK392.out 2; have hfz5_3 := blk_frozen BK392.out 3; have hfz5_4 := blk_frozen BK392.out 4))
  repeat (go_quiet (first | ((with_reducible refine gate_dst (N := 3) rfl ?_); (try (refine gate_guard (by rfl) ?_; dsimp only)); refine box_event ?hg (N := 3) ?hd (cs := #[.int .i64 a1_0, .int .i64 a1_1, .int .i64 a1_2, .int .i64 a1_3, .int .i64 a1_4]) (t := 43) ?hr ?_; (case hd => rfl); (case hg => rfl); (case hr => first | (go_simp; done) | (go_simp; rfl)); intro gb392 hg w4 hbox hb; have n0_ := Aside0.mk (below_step (by repeat (first | (with_reducible first | exact HB.out | apply below_alloc | apply pw_below_drewN | apply below_drew1) | exact HB.out)) hb); have n1_ := Aside0.mk (hbox); have n2_ := Aside0.mk ((by rw [hg]; exact (below_size (by repeat (first | (with_reducible first | exact HB.out | apply below_alloc | apply pw_below_drewN | apply below_drew1) | exact HB.out))) : w.heap.size ≤ gb392)); have n3_ := Aside0.mk ((by rw [hg]; exact (below_size (by repeat (first | (with_reducible first | exact HB.out | apply below_alloc | apply pw_below_drewN | apply below_drew1) | exact HB.out))) : w.heap.size ≤ gb392)); clear HB; have HB := n0_; have BK392 := n1_; have GW392 := n2_; have GE392 := n3_; clear n0_ n1_ n2_ n3_; clear hb hbox hg; have hcz5_0 : w4.cell? ⟨gb392, 0, none⟩ = some (.int .i64 a1_0) := (blk_cell BK392.out 0).trans rfl; have hcz5_1 : w4.cell? ⟨gb392, 1, none⟩ = some (.int .i64 a1_1) := (blk_cell BK392.out 1).trans rfl; have hcz5_2 : w4.cell? ⟨gb392, 2, none⟩ = some (.int .i64 a1_2) := (blk_cell BK392.out 2).trans rfl; have hcz5_3 : w4.cell? ⟨gb392, 3, none⟩ = some (.int .i64 a1_3) := (blk_cell BK392.out 3).trans rfl; have hcz5_4 : w4.cell? ⟨gb392, 4, none⟩ = some (.int .i64 a1_4) := (blk_cell BK392.out 4).trans rfl; have hfz5_0 := blk_frozen BK392.out 0; have hfz5_1 := blk_frozen BK392.out 1; have hfz5_2 := blk_frozen BK392.out 2; have hfz5_3 := blk_frozen BK392.out 3; have hfz5_4 := blk_frozen BK392.out 4)); try go_wp2_with (first | ((with_reducible refine gate_dst (N := 3) rfl ?_); (try (refine gate_guard (by rfl) ?_; dsimp only)); refine box_event ?hg (N := 3) ?hd (cs := #[.int .i64 a1_0, .int .i64 a1_1, .int .i64 a1_2, .int .i64 a1_3, .int .i64 a1_4]) (t := 43) ?hr ?_; (case hd => rfl); (case hg => rfl); (case hr => first | (go_simp; done) | (go_simp; rfl)); intro gb392 hg w4 hbox hb; have n0_ := Aside0.mk (below_step (by repeat (first | (with_reducible first | exact HB.out | apply below_alloc | apply pw_below_drewN | apply below_drew1) | exact HB.out)) hb); have n1_ := Aside0.mk (hbox); have n2_ := Aside0.mk ((by rw [hg]; exact (below_size (by repeat (first | (with_reducible first | exact HB.out | apply below_alloc | apply pw_below_drewN | apply below_drew1) | exact HB.out))) : w.heap.size ≤ gb392)); have n3_ := Aside0.mk ((by rw [hg]; exact (below_size (by repeat (first | (with_reducible first | exact HB.out | apply below_alloc | apply pw_below_drewN | apply below_drew1) | exact HB.out))) : w.heap.size ≤ gb392)); clear HB; have HB := n0_; have BK392 := n1_; have GW392 := n2_; have GE392 := n3_; clear n0_ n1_ n2_ n3_; clear hb hbox hg; have hcz5_0 : w4.cell? ⟨gb392, 0, none⟩ = some (.int .i64 a1_0) := (blk_cell BK392.out 0).trans rfl; have hcz5_1 : w4.cell? ⟨gb392, 1, none⟩ = some (.int .i64 a1_1) := (blk_cell BK392.out 1).trans rfl; have hcz5_2 : w4.cell? ⟨gb392, 2, none⟩ = some (.int .i64 a1_2) := (blk_cell BK392.out 2).trans rfl; have hcz5_3 : w4.cell? ⟨gb392, 3, none⟩ = some (.int .i64 a1_3) := (blk_cell BK392.out 3).trans rfl; have hcz5_4 : w4.cell? ⟨gb392, 4, none⟩ = some (.int .i64 a1_4) := (blk_cell BK392.out 4).trans rfl; have hfz5_0 := blk_frozen BK392.out 0; have hfz5_1 := blk_frozen BK392.out 1; have hfz5_2 := blk_frozen BK392.out 2; have hfz5_3 := blk_frozen BK392.out 3; have hfz5_4 := blk_frozen BK392.out 4)))
  go_ret2
  exact ⟨by first | rfl | (simp [errW_none, errW_some] <;> rfl) | (simp [*, errW_none, errW_some] <;> rfl), by repeat (first | (with_reducible first | exact HB.out | apply below_alloc | apply pw_below_drewN | apply below_drew1 | refine below_set ?_ GE392.out) | exact HB.out)⟩
 ·rw [if_neg c3] at H
  have c3b0 : (a1_0 == 3) = false := beq_eq_false_iff_ne.mpr c3
  have c3b1 : (a1_0 != 3) = true := bne_iff_ne.mpr c3
  have HC6 := Aside0.mk H
  clear H
  go_enter Try.func62, Try.ntmps62
  go_upto_region 3 with (first | ((with_reducible refine gate_dst (N := 3) rfl ?_); (try (refine gate_guard (by rfl) ?_; dsimp only)); refine box_event ?hg (N := 3) ?hd (cs := #[.int .i64 a1_0, .int .i64 a1_1, .int .i64 a1_2, .int .i64 a1_3, .int .i64 a1_4]) (t := 43) ?hr ?_; (case hd => rfl); (case hg => rfl); (case hr => first | (go_simp; done) | (go_simp; rfl)); intro gb392 hg w7 hbox hb; have n0_ := Aside0.mk (below_step (by repeat (first | (with_reducible first | exact HB.out | apply below_alloc | apply pw_below_drewN | apply below_drew1) | exact HB.out)) hb); have n1_ := Aside0.mk (hbox); have n2_ := Aside0.mk ((by rw [hg]; exact (below_size (by repeat (first | (with_reducible first | exact HB.out | apply below_alloc | apply pw_below_drewN | apply below_drew1) | exact HB.out))) : w.heap.size ≤ gb392)); have n3_ := Aside0.mk ((by rw [hg]; exact (below_size (by repeat (first | (with_reducible first | exact HB.out | apply below_alloc | apply pw_below_drewN | apply below_drew1) | exact HB.out))) : w.heap.size ≤ gb392)); clear HB; have HB := n0_; have BK392 := n1_; have GW392 := n2_; have GE392 := n3_; clear n0_ n1_ n2_ n3_; clear hb hbox hg; have hcz8_0 : w7.cell? ⟨gb392, 0, none⟩ = some (.int .i64 a1_0) := (blk_cell BK392.out 0).trans rfl; have hcz8_1 : w7.cell? ⟨gb392, 1, none⟩ = some (.int .i64 a1_1) := (blk_cell BK392.out 1).trans rfl; have hcz8_2 : w7.cell? ⟨gb392, 2, none⟩ = some (.int .i64 a1_2) := (blk_cell BK392.out 2).trans rfl; have hcz8_3 : w7.cell? ⟨gb392, 3, none⟩ = some (.int .i64 a1_3) := (blk_cell BK392.out 3).trans rfl; have hcz8_4 : w7.cell? ⟨gb392, 4, none⟩ = some (.int .i64 a1_4) := (blk_cell BK392.out 4).trans rfl; have hfz8_0 := blk_frozen BK392.out 0; have hfz8_1 := blk_frozen BK392.out 1; have hfz8_2 := blk_frozen BK392.out 2; have hfz8_3 := blk_frozen BK392.out 3; have hfz8_4 := blk_frozen BK392.out 4))
  repeat (go_quiet (first | ((with_reducible refine gate_dst (N := 3) rfl ?_); (try (refine gate_guard (by rfl) ?_; dsimp only)); refine box_event ?hg (N := 3) ?hd (cs := #[.int .i64 a1_0, .int .i64 a1_1, .int .i64 a1_2, .int .i64 a1_3, .int .i64 a1_4]) (t := 43) ?hr ?_; (case hd => rfl); (case hg => rfl); (case hr => first | (go_simp; done) | (go_simp; rfl)); intro gb392 hg w7 hbox hb; have n0_ := Aside0.mk (below_step (by repeat (first | (with_reducible first | exact HB.out | apply below_alloc | apply pw_below_drewN | apply below_drew1) | exact HB.out)) hb); have n1_ := Aside0.mk (hbox); have n2_ := Aside0.mk ((by rw [hg]; exact (below_size (by repeat (first | (with_reducible first | exact HB.out | apply below_alloc | apply pw_below_drewN | apply below_drew1) | exact HB.out))) : w.heap.size ≤ gb392)); have n3_ := Aside0.mk ((by rw [hg]; exact (below_size (by repeat (first | (with_reducible first | exact HB.out | apply below_alloc | apply pw_below_drewN | apply below_drew1) | exact HB.out))) : w.heap.size ≤ gb392)); clear HB; have HB := n0_; have BK392 := n1_; have GW392 := n2_; have GE392 := n3_; clear n0_ n1_ n2_ n3_; clear hb hbox hg; have hcz8_0 : w7.cell? ⟨gb392, 0, none⟩ = some (.int .i64 a1_0) := (blk_cell BK392.out 0).trans rfl; have hcz8_1 : w7.cell? ⟨gb392, 1, none⟩ = some (.int .i64 a1_1) := (blk_cell BK392.out 1).trans rfl; have hcz8_2 : w7.cell? ⟨gb392, 2, none⟩ = some (.int .i64 a1_2) := (blk_cell BK392.out 2).trans rfl; have hcz8_3 : w7.cell? ⟨gb392, 3, none⟩ = some (.int .i64 a1_3) := (blk_cell BK392.out 3).trans rfl; have hcz8_4 : w7.cell? ⟨gb392, 4, none⟩ = some (.int .i64 a1_4) := (blk_cell BK392.out 4).trans rfl; have hfz8_0 := blk_frozen BK392.out 0; have hfz8_1 := blk_frozen BK392.out 1; have hfz8_2 := blk_frozen BK392.out 2; have hfz8_3 := blk_frozen BK392.out 3; have hfz8_4 := blk_frozen BK392.out 4)); go_upto_region 3 with (first | ((with_reducible refine gate_dst (N := 3) rfl ?_); (try (refine gate_guard (by rfl) ?_; dsimp only)); refine box_event ?hg (N := 3) ?hd (cs := #[.int .i64 a1_0, .int .i64 a1_1, .int .i64 a1_2, .int .i64 a1_3, .int .i64 a1_4]) (t := 43) ?hr ?_; (case hd => rfl); (case hg => rfl); (case hr => first | (go_simp; done) | (go_simp; rfl)); intro gb392 hg w7 hbox hb; have n0_ := Aside0.mk (below_step (by repeat (first | (with_reducible first | exact HB.out | apply below_alloc | apply pw_below_drewN | apply below_drew1) | exact HB.out)) hb); have n1_ := Aside0.mk (hbox); have n2_ := Aside0.mk ((by rw [hg]; exact (below_size (by repeat (first | (with_reducible first | exact HB.out | apply below_alloc | apply pw_below_drewN | apply below_drew1) | exact HB.out))) : w.heap.size ≤ gb392)); have n3_ := Aside0.mk ((by rw [hg]; exact (below_size (by repeat (first | (with_reducible first | exact HB.out | apply below_alloc | apply pw_below_drewN | apply below_drew1) | exact HB.out))) : w.heap.size ≤ gb392)); clear HB; have HB := n0_; have BK392 := n1_; have GW392 := n2_; have GE392 := n3_; clear n0_ n1_ n2_ n3_; clear hb hbox hg; have hcz8_0 : w7.cell? ⟨gb392, 0, none⟩ = some (.int .i64 a1_0) := (blk_cell BK392.out 0).trans rfl; have hcz8_1 : w7.cell? ⟨gb392, 1, none⟩ = some (.int .i64 a1_1) := (blk_cell BK392.out 1).trans rfl; have hcz8_2 : w7.cell? ⟨gb392, 2, none⟩ = some (.int .i64 a1_2) := (blk_cell BK392.out 2).trans rfl; have hcz8_3 : w7.cell? ⟨gb392, 3, none⟩ = some (.int .i64 a1_3) := (blk_cell BK392.out 3).trans rfl; have hcz8_4 : w7.cell? ⟨gb392, 4, none⟩ = some (.int .i64 a1_4) := (blk_cell BK392.out 4).trans rfl; have hfz8_0 := blk_frozen BK392.out 0; have hfz8_1 := blk_frozen BK392.out 1; have hfz8_2 := blk_frozen BK392.out 2; have hfz8_3 := blk_frozen BK392.out 3; have hfz8_4 := blk_frozen BK392.out 4)))
  (try simp only [Act.put, List.setIfInBounds_toArray, List.set_cons_zero, List.set_cons_succ])
  go_cut [19] (fun v19 wc => ∃ (kq : Nat) (x19_5 : Bool), v19 = .bool x19_5 ∧ Aside0 (lines_shows.j0 kq l0 x19_5 a1_0 a1_1 a1_2 a1_3 a1_4 = some (r1, r2)) ∧ Aside0 (kq ≤ k) ∧ Aside0 (wc.heap[gb392]? = some (.cells #[.int .i64 a1_0, .int .i64 a1_1, .int .i64 a1_2, .int .i64 a1_3, .int .i64 a1_4] 43 (0, 0))) ∧ Aside0 (Below w.heap.size w wc))
  case first =>
   have H := HC6.out
   clear HC6
   by_cases c9 : a1_4 < 0
   ·rw [if_pos c9] at H
    have c9b0 : decide (a1_4 < 0) = true := decide_eq_true c9
    clear c9
    (first | rw [c9b0] | (simp only [i64_w, i32_w]; rw [c9b0]) | skip)
    have H' := Aside0.mk H
    clear H
    have hcz10_0 : w7.cell? ⟨gb392, 0, none⟩ = some (.int .i64 a1_0) := (blk_cell BK392.out 0).trans rfl
    have hcz10_1 : w7.cell? ⟨gb392, 1, none⟩ = some (.int .i64 a1_1) := (blk_cell BK392.out 1).trans rfl
    have hcz10_2 : w7.cell? ⟨gb392, 2, none⟩ = some (.int .i64 a1_2) := (blk_cell BK392.out 2).trans rfl
    have hcz10_3 : w7.cell? ⟨gb392, 3, none⟩ = some (.int .i64 a1_3) := (blk_cell BK392.out 3).trans rfl
    have hcz10_4 : w7.cell? ⟨gb392, 4, none⟩ = some (.int .i64 a1_4) := (blk_cell BK392.out 4).trans rfl
    have hfz10_0 := blk_frozen BK392.out 0
    have hfz10_1 := blk_frozen BK392.out 1
    have hfz10_2 := blk_frozen BK392.out 2
    have hfz10_3 := blk_frozen BK392.out 3
    have hfz10_4 := blk_frozen BK392.out 4
    go_wp2
    repeat (go_quiet (fail); try go_wp2)
    go_meet
    case rel => exact ⟨_, (true), (by first | rfl | (simp; done) | (simp [*]; done)), H', ⟨by first | omega | exact Nat.le_refl _⟩, ⟨by (with_reducible repeat (first | refine blk_drewN ?_ _ | refine blk_drew ?_ | refine blk_alloc ?_ _)); exact BK392.out⟩, ⟨by repeat (first | (with_reducible first | exact HB.out | apply below_alloc | apply pw_below_drewN | apply below_drew1 | refine below_set ?_ GE392.out) | exact HB.out)⟩⟩
   ·rw [if_neg c9] at H
    have c9b0 : decide (a1_4 < 0) = false := decide_eq_false c9
    clear c9
    (first | rw [c9b0] | (simp only [i64_w, i32_w]; rw [c9b0]) | skip)
    have H' := Aside0.mk H
    clear H
    have hcz11_0 : w7.cell? ⟨gb392, 0, none⟩ = some (.int .i64 a1_0) := (blk_cell BK392.out 0).trans rfl
    have hcz11_1 : w7.cell? ⟨gb392, 1, none⟩ = some (.int .i64 a1_1) := (blk_cell BK392.out 1).trans rfl
    have hcz11_2 : w7.cell? ⟨gb392, 2, none⟩ = some (.int .i64 a1_2) := (blk_cell BK392.out 2).trans rfl
    have hcz11_3 : w7.cell? ⟨gb392, 3, none⟩ = some (.int .i64 a1_3) := (blk_cell BK392.out 3).trans rfl
    have hcz11_4 : w7.cell? ⟨gb392, 4, none⟩ = some (.int .i64 a1_4) := (blk_cell BK392.out 4).trans rfl
    have hfz11_0 := blk_frozen BK392.out 0
    have hfz11_1 := blk_frozen BK392.out 1
    have hfz11_2 := blk_frozen BK392.out 2
    have hfz11_3 := blk_frozen BK392.out 3
    have hfz11_4 := blk_frozen BK392.out 4
    go_wp2
    repeat (go_quiet (fail); try go_wp2)
    go_meet
    case rel => exact ⟨_, (decide (a1_4 ≥ (l0.length : Int))), (by first | rfl | (simp; done) | (simp [*]; done)), H', ⟨by first | omega | exact Nat.le_refl _⟩, ⟨by (with_reducible repeat (first | refine blk_drewN ?_ _ | refine blk_drew ?_ | refine blk_alloc ?_ _)); exact BK392.out⟩, ⟨by repeat (first | (with_reducible first | exact HB.out | apply below_alloc | apply pw_below_drewN | apply below_drew1 | refine below_set ?_ GE392.out) | exact HB.out)⟩⟩
  case rest =>
   clear HC6
   try clear p2
   try clear c3
   try clear c3b0
   try clear c3b1
   try clear c6
   try clear c9
   try clear c9b0
   try clear hcz10_0
   try clear hcz10_1
   try clear hcz10_2
   try clear hcz10_3
   try clear hcz10_4
   try clear hcz11_0
   try clear hcz11_1
   try clear hcz11_2
   try clear hcz11_3
   try clear hcz11_4
   try clear hcz5_0
   try clear hcz5_1
   try clear hcz5_2
   try clear hcz5_3
   try clear hcz5_4
   try clear hcz8_0
   try clear hcz8_1
   try clear hcz8_2
   try clear hcz8_3
   try clear hcz8_4
   try clear hfz10_0
   try clear hfz10_1
   try clear hfz10_2
   try clear hfz10_3
   try clear hfz10_4
   try clear hfz11_0
   try clear hfz11_1
   try clear hfz11_2
   try clear hfz11_3
   try clear hfz11_4
   try clear hfz5_0
   try clear hfz5_1
   try clear hfz5_2
   try clear hfz5_3
   try clear hfz5_4
   try clear hfz8_0
   try clear hfz8_1
   try clear hfz8_2
   try clear hfz8_3
   try clear hfz8_4
   obtain ⟨kq, x19_5, rfl, HA, HJ5, BK392, HB⟩ := hcut
   cases kq with
   | zero => exact absurd HA.out (by simp [lines_shows.j0])
   | succ kj5 =>
    have H := HA.out
    clear HA
    simp only [lines_shows.j0] at H
    by_cases c12 : x19_5 = true
    ·subst c12
     have H1 : (some (0, false)) = some (r1, r2) := by rw [if_pos rfl] at H; exact H
     clear H
     have H := H1
     clear H1
     simp only [Option.some.injEq, Prod.mk.injEq] at H
     obtain ⟨rfl, rfl⟩ := H
     go_wp2
     repeat (go_quiet (fail); try go_wp2)
     go_ret2
     exact ⟨by first | rfl | (simp [errW_none, errW_some] <;> rfl) | (simp [*, errW_none, errW_some] <;> rfl), by repeat (first | (with_reducible first | exact HB.out | apply below_alloc | apply pw_below_drewN | apply below_drew1 | refine below_set ?_ GE392.out) | exact HB.out)⟩
    ·replace c12 := Bool.eq_false_iff.mpr c12
     subst c12
     have H1 : (if 0 ≤ a1_4 then (if a1_4 < (l0.length : Int) then (if a1_0 = 4 then (if ((rd_T101 l0 a1_4).f0) = 2 then (some (42, (((rd_T101 l0 a1_4).f1) == 110))) else (some (42, false))) else (some ((rd_T101 l0 a1_4).f1, (((rd_T101 l0 a1_4).f0) == 1)))) else (none)) else (none)) = some (r1, r2) := by rw [if_neg (show ¬ (false = true) by decide)] at H; exact H
     clear H
     have H := H1
     clear H1
     by_cases c13 : 0 ≤ a1_4
     ·rw [if_pos c13] at H
      have c13b0 : decide (0 ≤ a1_4) = true := decide_eq_true c13
      clear c13
      by_cases c14 : a1_4 < (l0.length : Int)
      ·rw [if_pos c14] at H
       have c14b0 : decide (a1_4 < (l0.length : Int)) = true := decide_eq_true c14
       clear c14
       by_cases c15 : a1_0 = 4
       ·rw [if_pos c15] at H
        have c15b0 : (a1_0 == 4) = true := beq_iff_eq.mpr c15
        have c15b1 : (a1_0 != 4) = false := bne_eq_false_iff_eq.mpr c15
        clear c15
        by_cases c16 : ((rd_T101 l0 a1_4).f0) = 2
        ·rw [if_pos c16] at H
         have c16b0 : (((rd_T101 l0 a1_4).f0) == 2) = true := beq_iff_eq.mpr c16
         have c16b1 : (((rd_T101 l0 a1_4).f0) != 2) = false := bne_eq_false_iff_eq.mpr c16
         clear c16
         simp only [Option.some.injEq, Prod.mk.injEq] at H
         obtain ⟨rfl, rfl⟩ := H
         have hcz17_0 : wc.cell? ⟨gb392, 0, none⟩ = some (.int .i64 a1_0) := (blk_cell BK392.out 0).trans rfl
         have hcz17_1 : wc.cell? ⟨gb392, 1, none⟩ = some (.int .i64 a1_1) := (blk_cell BK392.out 1).trans rfl
         have hcz17_2 : wc.cell? ⟨gb392, 2, none⟩ = some (.int .i64 a1_2) := (blk_cell BK392.out 2).trans rfl
         have hcz17_3 : wc.cell? ⟨gb392, 3, none⟩ = some (.int .i64 a1_3) := (blk_cell BK392.out 3).trans rfl
         have hcz17_4 : wc.cell? ⟨gb392, 4, none⟩ = some (.int .i64 a1_4) := (blk_cell BK392.out 4).trans rfl
         have hfz17_0 := blk_frozen BK392.out 0
         have hfz17_1 := blk_frozen BK392.out 1
         have hfz17_2 := blk_frozen BK392.out 2
         have hfz17_3 := blk_frozen BK392.out 3
         have hfz17_4 := blk_frozen BK392.out 4
         have p393 : 0 ≤ (a1_4 : Int) := of_decide_eq_true (by first | (with_reducible assumption) | assumption)
         have q393 : a1_4 < (l0.length : Int) := of_decide_eq_true (by first | (with_reducible assumption) | assumption)
         obtain ⟨ad393, e393, hx393_0, hx393_1, hx393_2⟩ := at_T101 HR0.out a1_4 p393 q393
         cases e393
         replace hx393_0 := (HB.out.cell (World.block_lt_of_cell? w _ hx393_0)).trans hx393_0
         replace hx393_1 := (HB.out.cell (World.block_lt_of_cell? w _ hx393_1)).trans hx393_1
         replace hx393_2 := (HB.out.cell (World.block_lt_of_cell? w _ hx393_2)).trans hx393_2
         replace p393 := eq_true p393
         replace q393 := eq_true q393
         go_wp2_with (first | ((with_reducible refine gate_dst (N := 6) rfl ?_); (try (refine gate_guard (by rfl) ?_; dsimp only)); refine box_event ?hg (N := 6) ?hd (cs := #[.int .i64 0, .int .u8 0, .int .i64 0]) (t := 101) ?hr ?_; (case hd => rfl); (case hg => rfl); (case hr => first | (go_simp; done) | (go_simp; rfl)); intro gb394 hg w18 hbox hb; have n0_ := Aside0.mk (blk_below (g := gb392) (o := .cells #[.int .i64 a1_0, .int .i64 a1_1, .int .i64 a1_2, .int .i64 a1_3, .int .i64 a1_4] 43 (0, 0)) (by (with_reducible repeat (first | refine blk_drewN ?_ _ | refine blk_drew ?_ | refine blk_alloc ?_ _)); exact BK392.out) hb); have n1_ := Aside0.mk (below_step (by repeat (first | (with_reducible first | exact HB.out | apply below_alloc | apply pw_below_drewN | apply below_drew1 | refine below_set ?_ GE392.out) | exact HB.out)) hb); have n2_ := Aside0.mk (hbox); have n3_ := Aside0.mk ((by rw [hg]; exact (below_size (by repeat (first | (with_reducible first | exact HB.out | apply below_alloc | apply pw_below_drewN | apply below_drew1 | refine below_set ?_ GE392.out) | exact HB.out))) : w.heap.size ≤ gb394)); have n4_ := Aside0.mk ((by rw [hg]; exact (below_size (by repeat (first | (with_reducible first | exact HB.out | apply below_alloc | apply pw_below_drewN | apply below_drew1 | refine below_set ?_ GE392.out) | exact HB.out))) : w.heap.size ≤ gb394)); have n5_ := Aside0.mk ((by rw [hg]; exact Nat.ne_of_lt (blk_lt (g := gb392) (o := .cells #[.int .i64 a1_0, .int .i64 a1_1, .int .i64 a1_2, .int .i64 a1_3, .int .i64 a1_4] 43 (0, 0)) (by (with_reducible repeat (first | refine blk_drewN ?_ _ | refine blk_drew ?_ | refine blk_alloc ?_ _)); exact BK392.out)) : gb392 ≠ gb394)); have n6_ := Aside0.mk ((by rw [hg]; exact Nat.ne_of_gt (blk_lt (g := gb392) (o := .cells #[.int .i64 a1_0, .int .i64 a1_1, .int .i64 a1_2, .int .i64 a1_3, .int .i64 a1_4] 43 (0, 0)) (by (with_reducible repeat (first | refine blk_drewN ?_ _ | refine blk_drew ?_ | refine blk_alloc ?_ _)); exact BK392.out)) : gb394 ≠ gb392)); clear BK392; clear HB; have BK392 := n0_; have HB := n1_; have BK394 := n2_; have GW394 := n3_; have GE394 := n4_; have NB392_394 := n5_; have NB394_392 := n6_; clear n0_ n1_ n2_ n3_ n4_ n5_ n6_; clear hb hbox hg; have hnb19 := NB394_392.out; have hnc19 := NB392_394.out; have hcz20_0 : w18.cell? ⟨gb394, 0, none⟩ = some (.int .i64 0) := (blk_cell BK394.out 0).trans rfl; have hcz20_1 : w18.cell? ⟨gb394, 1, none⟩ = some (.int .u8 0) := (blk_cell BK394.out 1).trans rfl; have hcz20_2 : w18.cell? ⟨gb394, 2, none⟩ = some (.int .i64 0) := (blk_cell BK394.out 2).trans rfl; have hfz20_0 := blk_frozen BK394.out 0; have hfz20_1 := blk_frozen BK394.out 1; have hfz20_2 := blk_frozen BK394.out 2; have hcz21_0 : w18.cell? ⟨gb392, 0, none⟩ = some (.int .i64 a1_0) := (blk_cell BK392.out 0).trans rfl; have hcz21_1 : w18.cell? ⟨gb392, 1, none⟩ = some (.int .i64 a1_1) := (blk_cell BK392.out 1).trans rfl; have hcz21_2 : w18.cell? ⟨gb392, 2, none⟩ = some (.int .i64 a1_2) := (blk_cell BK392.out 2).trans rfl; have hcz21_3 : w18.cell? ⟨gb392, 3, none⟩ = some (.int .i64 a1_3) := (blk_cell BK392.out 3).trans rfl; have hcz21_4 : w18.cell? ⟨gb392, 4, none⟩ = some (.int .i64 a1_4) := (blk_cell BK392.out 4).trans rfl; have hfz21_0 := blk_frozen BK392.out 0; have hfz21_1 := blk_frozen BK392.out 1; have hfz21_2 := blk_frozen BK392.out 2; have hfz21_3 := blk_frozen BK392.out 3; have hfz21_4 := blk_frozen BK392.out 4))
         repeat (go_quiet (first | ((with_reducible refine gate_dst (N := 6) rfl ?_); (try (refine gate_guard (by rfl) ?_; dsimp only)); refine box_event ?hg (N := 6) ?hd (cs := #[.int .i64 0, .int .u8 0, .int .i64 0]) (t := 101) ?hr ?_; (case hd => rfl); (case hg => rfl); (case hr => first | (go_simp; done) | (go_simp; rfl)); intro gb394 hg w18 hbox hb; have n0_ := Aside0.mk (blk_below (g := gb392) (o := .cells #[.int .i64 a1_0, .int .i64 a1_1, .int .i64 a1_2, .int .i64 a1_3, .int .i64 a1_4] 43 (0, 0)) (by (with_reducible repeat (first | refine blk_drewN ?_ _ | refine blk_drew ?_ | refine blk_alloc ?_ _)); exact BK392.out) hb); have n1_ := Aside0.mk (below_step (by repeat (first | (with_reducible first | exact HB.out | apply below_alloc | apply pw_below_drewN | apply below_drew1 | refine below_set ?_ GE392.out) | exact HB.out)) hb); have n2_ := Aside0.mk (hbox); have n3_ := Aside0.mk ((by rw [hg]; exact (below_size (by repeat (first | (with_reducible first | exact HB.out | apply below_alloc | apply pw_below_drewN | apply below_drew1 | refine below_set ?_ GE392.out) | exact HB.out))) : w.heap.size ≤ gb394)); have n4_ := Aside0.mk ((by rw [hg]; exact (below_size (by repeat (first | (with_reducible first | exact HB.out | apply below_alloc | apply pw_below_drewN | apply below_drew1 | refine below_set ?_ GE392.out) | exact HB.out))) : w.heap.size ≤ gb394)); have n5_ := Aside0.mk ((by rw [hg]; exact Nat.ne_of_lt (blk_lt (g := gb392) (o := .cells #[.int .i64 a1_0, .int .i64 a1_1, .int .i64 a1_2, .int .i64 a1_3, .int .i64 a1_4] 43 (0, 0)) (by (with_reducible repeat (first | refine blk_drewN ?_ _ | refine blk_drew ?_ | refine blk_alloc ?_ _)); exact BK392.out)) : gb392 ≠ gb394)); have n6_ := Aside0.mk ((by rw [hg]; exact Nat.ne_of_gt (blk_lt (g := gb392) (o := .cells #[.int .i64 a1_0, .int .i64 a1_1, .int .i64 a1_2, .int .i64 a1_3, .int .i64 a1_4] 43 (0, 0)) (by (with_reducible repeat (first | refine blk_drewN ?_ _ | refine blk_drew ?_ | refine blk_alloc ?_ _)); exact BK392.out)) : gb394 ≠ gb392)); clear BK392; clear HB; have BK392 := n0_; have HB := n1_; have BK394 := n2_; have GW394 := n3_; have GE394 := n4_; have NB392_394 := n5_; have NB394_392 := n6_; clear n0_ n1_ n2_ n3_ n4_ n5_ n6_; clear hb hbox hg; have hnb19 := NB394_392.out; have hnc19 := NB392_394.out; have hcz20_0 : w18.cell? ⟨gb394, 0, none⟩ = some (.int .i64 0) := (blk_cell BK394.out 0).trans rfl; have hcz20_1 : w18.cell? ⟨gb394, 1, none⟩ = some (.int .u8 0) := (blk_cell BK394.out 1).trans rfl; have hcz20_2 : w18.cell? ⟨gb394, 2, none⟩ = some (.int .i64 0) := (blk_cell BK394.out 2).trans rfl; have hfz20_0 := blk_frozen BK394.out 0; have hfz20_1 := blk_frozen BK394.out 1; have hfz20_2 := blk_frozen BK394.out 2; have hcz21_0 : w18.cell? ⟨gb392, 0, none⟩ = some (.int .i64 a1_0) := (blk_cell BK392.out 0).trans rfl; have hcz21_1 : w18.cell? ⟨gb392, 1, none⟩ = some (.int .i64 a1_1) := (blk_cell BK392.out 1).trans rfl; have hcz21_2 : w18.cell? ⟨gb392, 2, none⟩ = some (.int .i64 a1_2) := (blk_cell BK392.out 2).trans rfl; have hcz21_3 : w18.cell? ⟨gb392, 3, none⟩ = some (.int .i64 a1_3) := (blk_cell BK392.out 3).trans rfl; have hcz21_4 : w18.cell? ⟨gb392, 4, none⟩ = some (.int .i64 a1_4) := (blk_cell BK392.out 4).trans rfl; have hfz21_0 := blk_frozen BK392.out 0; have hfz21_1 := blk_frozen BK392.out 1; have hfz21_2 := blk_frozen BK392.out 2; have hfz21_3 := blk_frozen BK392.out 3; have hfz21_4 := blk_frozen BK392.out 4)); try go_wp2_with (first | ((with_reducible refine gate_dst (N := 6) rfl ?_); (try (refine gate_guard (by rfl) ?_; dsimp only)); refine box_event ?hg (N := 6) ?hd (cs := #[.int .i64 0, .int .u8 0, .int .i64 0]) (t := 101) ?hr ?_; (case hd => rfl); (case hg => rfl); (case hr => first | (go_simp; done) | (go_simp; rfl)); intro gb394 hg w18 hbox hb; have n0_ := Aside0.mk (blk_below (g := gb392) (o := .cells #[.int .i64 a1_0, .int .i64 a1_1, .int .i64 a1_2, .int .i64 a1_3, .int .i64 a1_4] 43 (0, 0)) (by (with_reducible repeat (first | refine blk_drewN ?_ _ | refine blk_drew ?_ | refine blk_alloc ?_ _)); exact BK392.out) hb); have n1_ := Aside0.mk (below_step (by repeat (first | (with_reducible first | exact HB.out | apply below_alloc | apply pw_below_drewN | apply below_drew1 | refine below_set ?_ GE392.out) | exact HB.out)) hb); have n2_ := Aside0.mk (hbox); have n3_ := Aside0.mk ((by rw [hg]; exact (below_size (by repeat (first | (with_reducible first | exact HB.out | apply below_alloc | apply pw_below_drewN | apply below_drew1 | refine below_set ?_ GE392.out) | exact HB.out))) : w.heap.size ≤ gb394)); have n4_ := Aside0.mk ((by rw [hg]; exact (below_size (by repeat (first | (with_reducible first | exact HB.out | apply below_alloc | apply pw_below_drewN | apply below_drew1 | refine below_set ?_ GE392.out) | exact HB.out))) : w.heap.size ≤ gb394)); have n5_ := Aside0.mk ((by rw [hg]; exact Nat.ne_of_lt (blk_lt (g := gb392) (o := .cells #[.int .i64 a1_0, .int .i64 a1_1, .int .i64 a1_2, .int .i64 a1_3, .int .i64 a1_4] 43 (0, 0)) (by (with_reducible repeat (first | refine blk_drewN ?_ _ | refine blk_drew ?_ | refine blk_alloc ?_ _)); exact BK392.out)) : gb392 ≠ gb394)); have n6_ := Aside0.mk ((by rw [hg]; exact Nat.ne_of_gt (blk_lt (g := gb392) (o := .cells #[.int .i64 a1_0, .int .i64 a1_1, .int .i64 a1_2, .int .i64 a1_3, .int .i64 a1_4] 43 (0, 0)) (by (with_reducible repeat (first | refine blk_drewN ?_ _ | refine blk_drew ?_ | refine blk_alloc ?_ _)); exact BK392.out)) : gb394 ≠ gb392)); clear BK392; clear HB; have BK392 := n0_; have HB := n1_; have BK394 := n2_; have GW394 := n3_; have GE394 := n4_; have NB392_394 := n5_; have NB394_392 := n6_; clear n0_ n1_ n2_ n3_ n4_ n5_ n6_; clear hb hbox hg; have hnb19 := NB394_392.out; have hnc19 := NB392_394.out; have hcz20_0 : w18.cell? ⟨gb394, 0, none⟩ = some (.int .i64 0) := (blk_cell BK394.out 0).trans rfl; have hcz20_1 : w18.cell? ⟨gb394, 1, none⟩ = some (.int .u8 0) := (blk_cell BK394.out 1).trans rfl; have hcz20_2 : w18.cell? ⟨gb394, 2, none⟩ = some (.int .i64 0) := (blk_cell BK394.out 2).trans rfl; have hfz20_0 := blk_frozen BK394.out 0; have hfz20_1 := blk_frozen BK394.out 1; have hfz20_2 := blk_frozen BK394.out 2; have hcz21_0 : w18.cell? ⟨gb392, 0, none⟩ = some (.int .i64 a1_0) := (blk_cell BK392.out 0).trans rfl; have hcz21_1 : w18.cell? ⟨gb392, 1, none⟩ = some (.int .i64 a1_1) := (blk_cell BK392.out 1).trans rfl; have hcz21_2 : w18.cell? ⟨gb392, 2, none⟩ = some (.int .i64 a1_2) := (blk_cell BK392.out 2).trans rfl; have hcz21_3 : w18.cell? ⟨gb392, 3, none⟩ = some (.int .i64 a1_3) := (blk_cell BK392.out 3).trans rfl; have hcz21_4 : w18.cell? ⟨gb392, 4, none⟩ = some (.int .i64 a1_4) := (blk_cell BK392.out 4).trans rfl; have hfz21_0 := blk_frozen BK392.out 0; have hfz21_1 := blk_frozen BK392.out 1; have hfz21_2 := blk_frozen BK392.out 2; have hfz21_3 := blk_frozen BK392.out 3; have hfz21_4 := blk_frozen BK392.out 4)))
         go_ret2
         exact ⟨by first | rfl | (simp [errW_none, errW_some] <;> rfl) | (simp [*, errW_none, errW_some] <;> rfl), by repeat (first | (with_reducible first | exact HB.out | apply below_alloc | apply pw_below_drewN | apply below_drew1 | refine below_set ?_ GE392.out | refine below_set ?_ GE394.out) | exact HB.out)⟩
        ·rw [if_neg c16] at H
         have c16b0 : (((rd_T101 l0 a1_4).f0) == 2) = false := beq_eq_false_iff_ne.mpr c16
         have c16b1 : (((rd_T101 l0 a1_4).f0) != 2) = true := bne_iff_ne.mpr c16
         simp only [Option.some.injEq, Prod.mk.injEq] at H
         obtain ⟨rfl, rfl⟩ := H
         have hcz22_0 : wc.cell? ⟨gb392, 0, none⟩ = some (.int .i64 a1_0) := (blk_cell BK392.out 0).trans rfl
         have hcz22_1 : wc.cell? ⟨gb392, 1, none⟩ = some (.int .i64 a1_1) := (blk_cell BK392.out 1).trans rfl
         have hcz22_2 : wc.cell? ⟨gb392, 2, none⟩ = some (.int .i64 a1_2) := (blk_cell BK392.out 2).trans rfl
         have hcz22_3 : wc.cell? ⟨gb392, 3, none⟩ = some (.int .i64 a1_3) := (blk_cell BK392.out 3).trans rfl
         have hcz22_4 : wc.cell? ⟨gb392, 4, none⟩ = some (.int .i64 a1_4) := (blk_cell BK392.out 4).trans rfl
         have hfz22_0 := blk_frozen BK392.out 0
         have hfz22_1 := blk_frozen BK392.out 1
         have hfz22_2 := blk_frozen BK392.out 2
         have hfz22_3 := blk_frozen BK392.out 3
         have hfz22_4 := blk_frozen BK392.out 4
         have p393 : 0 ≤ (a1_4 : Int) := of_decide_eq_true (by first | (with_reducible assumption) | assumption)
         have q393 : a1_4 < (l0.length : Int) := of_decide_eq_true (by first | (with_reducible assumption) | assumption)
         obtain ⟨ad393, e393, hx393_0, hx393_1, hx393_2⟩ := at_T101 HR0.out a1_4 p393 q393
         cases e393
         replace hx393_0 := (HB.out.cell (World.block_lt_of_cell? w _ hx393_0)).trans hx393_0
         replace hx393_1 := (HB.out.cell (World.block_lt_of_cell? w _ hx393_1)).trans hx393_1
         replace hx393_2 := (HB.out.cell (World.block_lt_of_cell? w _ hx393_2)).trans hx393_2
         replace p393 := eq_true p393
         replace q393 := eq_true q393
         go_wp2_with (first | ((with_reducible refine gate_dst (N := 6) rfl ?_); (try (refine gate_guard (by rfl) ?_; dsimp only)); refine box_event ?hg (N := 6) ?hd (cs := #[.int .i64 0, .int .u8 0, .int .i64 0]) (t := 101) ?hr ?_; (case hd => rfl); (case hg => rfl); (case hr => first | (go_simp; done) | (go_simp; rfl)); intro gb394 hg w23 hbox hb; have n0_ := Aside0.mk (blk_below (g := gb392) (o := .cells #[.int .i64 a1_0, .int .i64 a1_1, .int .i64 a1_2, .int .i64 a1_3, .int .i64 a1_4] 43 (0, 0)) (by (with_reducible repeat (first | refine blk_drewN ?_ _ | refine blk_drew ?_ | refine blk_alloc ?_ _)); exact BK392.out) hb); have n1_ := Aside0.mk (below_step (by repeat (first | (with_reducible first | exact HB.out | apply below_alloc | apply pw_below_drewN | apply below_drew1 | refine below_set ?_ GE392.out) | exact HB.out)) hb); have n2_ := Aside0.mk (hbox); have n3_ := Aside0.mk ((by rw [hg]; exact (below_size (by repeat (first | (with_reducible first | exact HB.out | apply below_alloc | apply pw_below_drewN | apply below_drew1 | refine below_set ?_ GE392.out) | exact HB.out))) : w.heap.size ≤ gb394)); have n4_ := Aside0.mk ((by rw [hg]; exact (below_size (by repeat (first | (with_reducible first | exact HB.out | apply below_alloc | apply pw_below_drewN | apply below_drew1 | refine below_set ?_ GE392.out) | exact HB.out))) : w.heap.size ≤ gb394)); have n5_ := Aside0.mk ((by rw [hg]; exact Nat.ne_of_lt (blk_lt (g := gb392) (o := .cells #[.int .i64 a1_0, .int .i64 a1_1, .int .i64 a1_2, .int .i64 a1_3, .int .i64 a1_4] 43 (0, 0)) (by (with_reducible repeat (first | refine blk_drewN ?_ _ | refine blk_drew ?_ | refine blk_alloc ?_ _)); exact BK392.out)) : gb392 ≠ gb394)); have n6_ := Aside0.mk ((by rw [hg]; exact Nat.ne_of_gt (blk_lt (g := gb392) (o := .cells #[.int .i64 a1_0, .int .i64 a1_1, .int .i64 a1_2, .int .i64 a1_3, .int .i64 a1_4] 43 (0, 0)) (by (with_reducible repeat (first | refine blk_drewN ?_ _ | refine blk_drew ?_ | refine blk_alloc ?_ _)); exact BK392.out)) : gb394 ≠ gb392)); clear BK392; clear HB; have BK392 := n0_; have HB := n1_; have BK394 := n2_; have GW394 := n3_; have GE394 := n4_; have NB392_394 := n5_; have NB394_392 := n6_; clear n0_ n1_ n2_ n3_ n4_ n5_ n6_; clear hb hbox hg; have hnb24 := NB394_392.out; have hnc24 := NB392_394.out; have hcz25_0 : w23.cell? ⟨gb394, 0, none⟩ = some (.int .i64 0) := (blk_cell BK394.out 0).trans rfl; have hcz25_1 : w23.cell? ⟨gb394, 1, none⟩ = some (.int .u8 0) := (blk_cell BK394.out 1).trans rfl; have hcz25_2 : w23.cell? ⟨gb394, 2, none⟩ = some (.int .i64 0) := (blk_cell BK394.out 2).trans rfl; have hfz25_0 := blk_frozen BK394.out 0; have hfz25_1 := blk_frozen BK394.out 1; have hfz25_2 := blk_frozen BK394.out 2; have hcz26_0 : w23.cell? ⟨gb392, 0, none⟩ = some (.int .i64 a1_0) := (blk_cell BK392.out 0).trans rfl; have hcz26_1 : w23.cell? ⟨gb392, 1, none⟩ = some (.int .i64 a1_1) := (blk_cell BK392.out 1).trans rfl; have hcz26_2 : w23.cell? ⟨gb392, 2, none⟩ = some (.int .i64 a1_2) := (blk_cell BK392.out 2).trans rfl; have hcz26_3 : w23.cell? ⟨gb392, 3, none⟩ = some (.int .i64 a1_3) := (blk_cell BK392.out 3).trans rfl; have hcz26_4 : w23.cell? ⟨gb392, 4, none⟩ = some (.int .i64 a1_4) := (blk_cell BK392.out 4).trans rfl; have hfz26_0 := blk_frozen BK392.out 0; have hfz26_1 := blk_frozen BK392.out 1; have hfz26_2 := blk_frozen BK392.out 2; have hfz26_3 := blk_frozen BK392.out 3; have hfz26_4 := blk_frozen BK392.out 4))
         repeat (go_quiet (first | ((with_reducible refine gate_dst (N := 6) rfl ?_); (try (refine gate_guard (by rfl) ?_; dsimp only)); refine box_event ?hg (N := 6) ?hd (cs := #[.int .i64 0, .int .u8 0, .int .i64 0]) (t := 101) ?hr ?_; (case hd => rfl); (case hg => rfl); (case hr => first | (go_simp; done) | (go_simp; rfl)); intro gb394 hg w23 hbox hb; have n0_ := Aside0.mk (blk_below (g := gb392) (o := .cells #[.int .i64 a1_0, .int .i64 a1_1, .int .i64 a1_2, .int .i64 a1_3, .int .i64 a1_4] 43 (0, 0)) (by (with_reducible repeat (first | refine blk_drewN ?_ _ | refine blk_drew ?_ | refine blk_alloc ?_ _)); exact BK392.out) hb); have n1_ := Aside0.mk (below_step (by repeat (first | (with_reducible first | exact HB.out | apply below_alloc | apply pw_below_drewN | apply below_drew1 | refine below_set ?_ GE392.out) | exact HB.out)) hb); have n2_ := Aside0.mk (hbox); have n3_ := Aside0.mk ((by rw [hg]; exact (below_size (by repeat (first | (with_reducible first | exact HB.out | apply below_alloc | apply pw_below_drewN | apply below_drew1 | refine below_set ?_ GE392.out) | exact HB.out))) : w.heap.size ≤ gb394)); have n4_ := Aside0.mk ((by rw [hg]; exact (below_size (by repeat (first | (with_reducible first | exact HB.out | apply below_alloc | apply pw_below_drewN | apply below_drew1 | refine below_set ?_ GE392.out) | exact HB.out))) : w.heap.size ≤ gb394)); have n5_ := Aside0.mk ((by rw [hg]; exact Nat.ne_of_lt (blk_lt (g := gb392) (o := .cells #[.int .i64 a1_0, .int .i64 a1_1, .int .i64 a1_2, .int .i64 a1_3, .int .i64 a1_4] 43 (0, 0)) (by (with_reducible repeat (first | refine blk_drewN ?_ _ | refine blk_drew ?_ | refine blk_alloc ?_ _)); exact BK392.out)) : gb392 ≠ gb394)); have n6_ := Aside0.mk ((by rw [hg]; exact Nat.ne_of_gt (blk_lt (g := gb392) (o := .cells #[.int .i64 a1_0, .int .i64 a1_1, .int .i64 a1_2, .int .i64 a1_3, .int .i64 a1_4] 43 (0, 0)) (by (with_reducible repeat (first | refine blk_drewN ?_ _ | refine blk_drew ?_ | refine blk_alloc ?_ _)); exact BK392.out)) : gb394 ≠ gb392)); clear BK392; clear HB; have BK392 := n0_; have HB := n1_; have BK394 := n2_; have GW394 := n3_; have GE394 := n4_; have NB392_394 := n5_; have NB394_392 := n6_; clear n0_ n1_ n2_ n3_ n4_ n5_ n6_; clear hb hbox hg; have hnb24 := NB394_392.out; have hnc24 := NB392_394.out; have hcz25_0 : w23.cell? ⟨gb394, 0, none⟩ = some (.int .i64 0) := (blk_cell BK394.out 0).trans rfl; have hcz25_1 : w23.cell? ⟨gb394, 1, none⟩ = some (.int .u8 0) := (blk_cell BK394.out 1).trans rfl; have hcz25_2 : w23.cell? ⟨gb394, 2, none⟩ = some (.int .i64 0) := (blk_cell BK394.out 2).trans rfl; have hfz25_0 := blk_frozen BK394.out 0; have hfz25_1 := blk_frozen BK394.out 1; have hfz25_2 := blk_frozen BK394.out 2; have hcz26_0 : w23.cell? ⟨gb392, 0, none⟩ = some (.int .i64 a1_0) := (blk_cell BK392.out 0).trans rfl; have hcz26_1 : w23.cell? ⟨gb392, 1, none⟩ = some (.int .i64 a1_1) := (blk_cell BK392.out 1).trans rfl; have hcz26_2 : w23.cell? ⟨gb392, 2, none⟩ = some (.int .i64 a1_2) := (blk_cell BK392.out 2).trans rfl; have hcz26_3 : w23.cell? ⟨gb392, 3, none⟩ = some (.int .i64 a1_3) := (blk_cell BK392.out 3).trans rfl; have hcz26_4 : w23.cell? ⟨gb392, 4, none⟩ = some (.int .i64 a1_4) := (blk_cell BK392.out 4).trans rfl; have hfz26_0 := blk_frozen BK392.out 0; have hfz26_1 := blk_frozen BK392.out 1; have hfz26_2 := blk_frozen BK392.out 2; have hfz26_3 := blk_frozen BK392.out 3; have hfz26_4 := blk_frozen BK392.out 4)); try go_wp2_with (first | ((with_reducible refine gate_dst (N := 6) rfl ?_); (try (refine gate_guard (by rfl) ?_; dsimp only)); refine box_event ?hg (N := 6) ?hd (cs := #[.int .i64 0, .int .u8 0, .int .i64 0]) (t := 101) ?hr ?_; (case hd => rfl); (case hg => rfl); (case hr => first | (go_simp; done) | (go_simp; rfl)); intro gb394 hg w23 hbox hb; have n0_ := Aside0.mk (blk_below (g := gb392) (o := .cells #[.int .i64 a1_0, .int .i64 a1_1, .int .i64 a1_2, .int .i64 a1_3, .int .i64 a1_4] 43 (0, 0)) (by (with_reducible repeat (first | refine blk_drewN ?_ _ | refine blk_drew ?_ | refine blk_alloc ?_ _)); exact BK392.out) hb); have n1_ := Aside0.mk (below_step (by repeat (first | (with_reducible first | exact HB.out | apply below_alloc | apply pw_below_drewN | apply below_drew1 | refine below_set ?_ GE392.out) | exact HB.out)) hb); have n2_ := Aside0.mk (hbox); have n3_ := Aside0.mk ((by rw [hg]; exact (below_size (by repeat (first | (with_reducible first | exact HB.out | apply below_alloc | apply pw_below_drewN | apply below_drew1 | refine below_set ?_ GE392.out) | exact HB.out))) : w.heap.size ≤ gb394)); have n4_ := Aside0.mk ((by rw [hg]; exact (below_size (by repeat (first | (with_reducible first | exact HB.out | apply below_alloc | apply pw_below_drewN | apply below_drew1 | refine below_set ?_ GE392.out) | exact HB.out))) : w.heap.size ≤ gb394)); have n5_ := Aside0.mk ((by rw [hg]; exact Nat.ne_of_lt (blk_lt (g := gb392) (o := .cells #[.int .i64 a1_0, .int .i64 a1_1, .int .i64 a1_2, .int .i64 a1_3, .int .i64 a1_4] 43 (0, 0)) (by (with_reducible repeat (first | refine blk_drewN ?_ _ | refine blk_drew ?_ | refine blk_alloc ?_ _)); exact BK392.out)) : gb392 ≠ gb394)); have n6_ := Aside0.mk ((by rw [hg]; exact Nat.ne_of_gt (blk_lt (g := gb392) (o := .cells #[.int .i64 a1_0, .int .i64 a1_1, .int .i64 a1_2, .int .i64 a1_3, .int .i64 a1_4] 43 (0, 0)) (by (with_reducible repeat (first | refine blk_drewN ?_ _ | refine blk_drew ?_ | refine blk_alloc ?_ _)); exact BK392.out)) : gb394 ≠ gb392)); clear BK392; clear HB; have BK392 := n0_; have HB := n1_; have BK394 := n2_; have GW394 := n3_; have GE394 := n4_; have NB392_394 := n5_; have NB394_392 := n6_; clear n0_ n1_ n2_ n3_ n4_ n5_ n6_; clear hb hbox hg; have hnb24 := NB394_392.out; have hnc24 := NB392_394.out; have hcz25_0 : w23.cell? ⟨gb394, 0, none⟩ = some (.int .i64 0) := (blk_cell BK394.out 0).trans rfl; have hcz25_1 : w23.cell? ⟨gb394, 1, none⟩ = some (.int .u8 0) := (blk_cell BK394.out 1).trans rfl; have hcz25_2 : w23.cell? ⟨gb394, 2, none⟩ = some (.int .i64 0) := (blk_cell BK394.out 2).trans rfl; have hfz25_0 := blk_frozen BK394.out 0; have hfz25_1 := blk_frozen BK394.out 1; have hfz25_2 := blk_frozen BK394.out 2; have hcz26_0 : w23.cell? ⟨gb392, 0, none⟩ = some (.int .i64 a1_0) := (blk_cell BK392.out 0).trans rfl; have hcz26_1 : w23.cell? ⟨gb392, 1, none⟩ = some (.int .i64 a1_1) := (blk_cell BK392.out 1).trans rfl; have hcz26_2 : w23.cell? ⟨gb392, 2, none⟩ = some (.int .i64 a1_2) := (blk_cell BK392.out 2).trans rfl; have hcz26_3 : w23.cell? ⟨gb392, 3, none⟩ = some (.int .i64 a1_3) := (blk_cell BK392.out 3).trans rfl; have hcz26_4 : w23.cell? ⟨gb392, 4, none⟩ = some (.int .i64 a1_4) := (blk_cell BK392.out 4).trans rfl; have hfz26_0 := blk_frozen BK392.out 0; have hfz26_1 := blk_frozen BK392.out 1; have hfz26_2 := blk_frozen BK392.out 2; have hfz26_3 := blk_frozen BK392.out 3; have hfz26_4 := blk_frozen BK392.out 4)))
         go_ret2
         exact ⟨by first | rfl | (simp [errW_none, errW_some] <;> rfl) | (simp [*, errW_none, errW_some] <;> rfl), by repeat (first | (with_reducible first | exact HB.out | apply below_alloc | apply pw_below_drewN | apply below_drew1 | refine below_set ?_ GE392.out | refine below_set ?_ GE394.out) | exact HB.out)⟩
       ·rw [if_neg c15] at H
        have c15b0 : (a1_0 == 4) = false := beq_eq_false_iff_ne.mpr c15
        have c15b1 : (a1_0 != 4) = true := bne_iff_ne.mpr c15
        simp only [Option.some.injEq, Prod.mk.injEq] at H
        obtain ⟨rfl, rfl⟩ := H
        have hcz27_0 : wc.cell? ⟨gb392, 0, none⟩ = some (.int .i64 a1_0) := (blk_cell BK392.out 0).trans rfl
        have hcz27_1 : wc.cell? ⟨gb392, 1, none⟩ = some (.int .i64 a1_1) := (blk_cell BK392.out 1).trans rfl
        have hcz27_2 : wc.cell? ⟨gb392, 2, none⟩ = some (.int .i64 a1_2) := (blk_cell BK392.out 2).trans rfl
        have hcz27_3 : wc.cell? ⟨gb392, 3, none⟩ = some (.int .i64 a1_3) := (blk_cell BK392.out 3).trans rfl
        have hcz27_4 : wc.cell? ⟨gb392, 4, none⟩ = some (.int .i64 a1_4) := (blk_cell BK392.out 4).trans rfl
        have hfz27_0 := blk_frozen BK392.out 0
        have hfz27_1 := blk_frozen BK392.out 1
        have hfz27_2 := blk_frozen BK392.out 2
        have hfz27_3 := blk_frozen BK392.out 3
        have hfz27_4 := blk_frozen BK392.out 4
        have p393 : 0 ≤ (a1_4 : Int) := of_decide_eq_true (by first | (with_reducible assumption) | assumption)
        have q393 : a1_4 < (l0.length : Int) := of_decide_eq_true (by first | (with_reducible assumption) | assumption)
        obtain ⟨ad393, e393, hx393_0, hx393_1, hx393_2⟩ := at_T101 HR0.out a1_4 p393 q393
        cases e393
        replace hx393_0 := (HB.out.cell (World.block_lt_of_cell? w _ hx393_0)).trans hx393_0
        replace hx393_1 := (HB.out.cell (World.block_lt_of_cell? w _ hx393_1)).trans hx393_1
        replace hx393_2 := (HB.out.cell (World.block_lt_of_cell? w _ hx393_2)).trans hx393_2
        replace p393 := eq_true p393
        replace q393 := eq_true q393
        go_wp2_with (first | ((with_reducible refine gate_dst (N := 6) rfl ?_); (try (refine gate_guard (by rfl) ?_; dsimp only)); refine box_event ?hg (N := 6) ?hd (cs := #[.int .i64 0, .int .u8 0, .int .i64 0]) (t := 101) ?hr ?_; (case hd => rfl); (case hg => rfl); (case hr => first | (go_simp; done) | (go_simp; rfl)); intro gb394 hg w28 hbox hb; have n0_ := Aside0.mk (blk_below (g := gb392) (o := .cells #[.int .i64 a1_0, .int .i64 a1_1, .int .i64 a1_2, .int .i64 a1_3, .int .i64 a1_4] 43 (0, 0)) (by (with_reducible repeat (first | refine blk_drewN ?_ _ | refine blk_drew ?_ | refine blk_alloc ?_ _)); exact BK392.out) hb); have n1_ := Aside0.mk (below_step (by repeat (first | (with_reducible first | exact HB.out | apply below_alloc | apply pw_below_drewN | apply below_drew1 | refine below_set ?_ GE392.out) | exact HB.out)) hb); have n2_ := Aside0.mk (hbox); have n3_ := Aside0.mk ((by rw [hg]; exact (below_size (by repeat (first | (with_reducible first | exact HB.out | apply below_alloc | apply pw_below_drewN | apply below_drew1 | refine below_set ?_ GE392.out) | exact HB.out))) : w.heap.size ≤ gb394)); have n4_ := Aside0.mk ((by rw [hg]; exact (below_size (by repeat (first | (with_reducible first | exact HB.out | apply below_alloc | apply pw_below_drewN | apply below_drew1 | refine below_set ?_ GE392.out) | exact HB.out))) : w.heap.size ≤ gb394)); have n5_ := Aside0.mk ((by rw [hg]; exact Nat.ne_of_lt (blk_lt (g := gb392) (o := .cells #[.int .i64 a1_0, .int .i64 a1_1, .int .i64 a1_2, .int .i64 a1_3, .int .i64 a1_4] 43 (0, 0)) (by (with_reducible repeat (first | refine blk_drewN ?_ _ | refine blk_drew ?_ | refine blk_alloc ?_ _)); exact BK392.out)) : gb392 ≠ gb394)); have n6_ := Aside0.mk ((by rw [hg]; exact Nat.ne_of_gt (blk_lt (g := gb392) (o := .cells #[.int .i64 a1_0, .int .i64 a1_1, .int .i64 a1_2, .int .i64 a1_3, .int .i64 a1_4] 43 (0, 0)) (by (with_reducible repeat (first | refine blk_drewN ?_ _ | refine blk_drew ?_ | refine blk_alloc ?_ _)); exact BK392.out)) : gb394 ≠ gb392)); clear BK392; clear HB; have BK392 := n0_; have HB := n1_; have BK394 := n2_; have GW394 := n3_; have GE394 := n4_; have NB392_394 := n5_; have NB394_392 := n6_; clear n0_ n1_ n2_ n3_ n4_ n5_ n6_; clear hb hbox hg; have hnb29 := NB394_392.out; have hnc29 := NB392_394.out; have hcz30_0 : w28.cell? ⟨gb394, 0, none⟩ = some (.int .i64 0) := (blk_cell BK394.out 0).trans rfl; have hcz30_1 : w28.cell? ⟨gb394, 1, none⟩ = some (.int .u8 0) := (blk_cell BK394.out 1).trans rfl; have hcz30_2 : w28.cell? ⟨gb394, 2, none⟩ = some (.int .i64 0) := (blk_cell BK394.out 2).trans rfl; have hfz30_0 := blk_frozen BK394.out 0; have hfz30_1 := blk_frozen BK394.out 1; have hfz30_2 := blk_frozen BK394.out 2; have hcz31_0 : w28.cell? ⟨gb392, 0, none⟩ = some (.int .i64 a1_0) := (blk_cell BK392.out 0).trans rfl; have hcz31_1 : w28.cell? ⟨gb392, 1, none⟩ = some (.int .i64 a1_1) := (blk_cell BK392.out 1).trans rfl; have hcz31_2 : w28.cell? ⟨gb392, 2, none⟩ = some (.int .i64 a1_2) := (blk_cell BK392.out 2).trans rfl; have hcz31_3 : w28.cell? ⟨gb392, 3, none⟩ = some (.int .i64 a1_3) := (blk_cell BK392.out 3).trans rfl; have hcz31_4 : w28.cell? ⟨gb392, 4, none⟩ = some (.int .i64 a1_4) := (blk_cell BK392.out 4).trans rfl; have hfz31_0 := blk_frozen BK392.out 0; have hfz31_1 := blk_frozen BK392.out 1; have hfz31_2 := blk_frozen BK392.out 2; have hfz31_3 := blk_frozen BK392.out 3; have hfz31_4 := blk_frozen BK392.out 4))
        repeat (go_quiet (first | ((with_reducible refine gate_dst (N := 6) rfl ?_); (try (refine gate_guard (by rfl) ?_; dsimp only)); refine box_event ?hg (N := 6) ?hd (cs := #[.int .i64 0, .int .u8 0, .int .i64 0]) (t := 101) ?hr ?_; (case hd => rfl); (case hg => rfl); (case hr => first | (go_simp; done) | (go_simp; rfl)); intro gb394 hg w28 hbox hb; have n0_ := Aside0.mk (blk_below (g := gb392) (o := .cells #[.int .i64 a1_0, .int .i64 a1_1, .int .i64 a1_2, .int .i64 a1_3, .int .i64 a1_4] 43 (0, 0)) (by (with_reducible repeat (first | refine blk_drewN ?_ _ | refine blk_drew ?_ | refine blk_alloc ?_ _)); exact BK392.out) hb); have n1_ := Aside0.mk (below_step (by repeat (first | (with_reducible first | exact HB.out | apply below_alloc | apply pw_below_drewN | apply below_drew1 | refine below_set ?_ GE392.out) | exact HB.out)) hb); have n2_ := Aside0.mk (hbox); have n3_ := Aside0.mk ((by rw [hg]; exact (below_size (by repeat (first | (with_reducible first | exact HB.out | apply below_alloc | apply pw_below_drewN | apply below_drew1 | refine below_set ?_ GE392.out) | exact HB.out))) : w.heap.size ≤ gb394)); have n4_ := Aside0.mk ((by rw [hg]; exact (below_size (by repeat (first | (with_reducible first | exact HB.out | apply below_alloc | apply pw_below_drewN | apply below_drew1 | refine below_set ?_ GE392.out) | exact HB.out))) : w.heap.size ≤ gb394)); have n5_ := Aside0.mk ((by rw [hg]; exact Nat.ne_of_lt (blk_lt (g := gb392) (o := .cells #[.int .i64 a1_0, .int .i64 a1_1, .int .i64 a1_2, .int .i64 a1_3, .int .i64 a1_4] 43 (0, 0)) (by (with_reducible repeat (first | refine blk_drewN ?_ _ | refine blk_drew ?_ | refine blk_alloc ?_ _)); exact BK392.out)) : gb392 ≠ gb394)); have n6_ := Aside0.mk ((by rw [hg]; exact Nat.ne_of_gt (blk_lt (g := gb392) (o := .cells #[.int .i64 a1_0, .int .i64 a1_1, .int .i64 a1_2, .int .i64 a1_3, .int .i64 a1_4] 43 (0, 0)) (by (with_reducible repeat (first | refine blk_drewN ?_ _ | refine blk_drew ?_ | refine blk_alloc ?_ _)); exact BK392.out)) : gb394 ≠ gb392)); clear BK392; clear HB; have BK392 := n0_; have HB := n1_; have BK394 := n2_; have GW394 := n3_; have GE394 := n4_; have NB392_394 := n5_; have NB394_392 := n6_; clear n0_ n1_ n2_ n3_ n4_ n5_ n6_; clear hb hbox hg; have hnb29 := NB394_392.out; have hnc29 := NB392_394.out; have hcz30_0 : w28.cell? ⟨gb394, 0, none⟩ = some (.int .i64 0) := (blk_cell BK394.out 0).trans rfl; have hcz30_1 : w28.cell? ⟨gb394, 1, none⟩ = some (.int .u8 0) := (blk_cell BK394.out 1).trans rfl; have hcz30_2 : w28.cell? ⟨gb394, 2, none⟩ = some (.int .i64 0) := (blk_cell BK394.out 2).trans rfl; have hfz30_0 := blk_frozen BK394.out 0; have hfz30_1 := blk_frozen BK394.out 1; have hfz30_2 := blk_frozen BK394.out 2; have hcz31_0 : w28.cell? ⟨gb392, 0, none⟩ = some (.int .i64 a1_0) := (blk_cell BK392.out 0).trans rfl; have hcz31_1 : w28.cell? ⟨gb392, 1, none⟩ = some (.int .i64 a1_1) := (blk_cell BK392.out 1).trans rfl; have hcz31_2 : w28.cell? ⟨gb392, 2, none⟩ = some (.int .i64 a1_2) := (blk_cell BK392.out 2).trans rfl; have hcz31_3 : w28.cell? ⟨gb392, 3, none⟩ = some (.int .i64 a1_3) := (blk_cell BK392.out 3).trans rfl; have hcz31_4 : w28.cell? ⟨gb392, 4, none⟩ = some (.int .i64 a1_4) := (blk_cell BK392.out 4).trans rfl; have hfz31_0 := blk_frozen BK392.out 0; have hfz31_1 := blk_frozen BK392.out 1; have hfz31_2 := blk_frozen BK392.out 2; have hfz31_3 := blk_frozen BK392.out 3; have hfz31_4 := blk_frozen BK392.out 4)); try go_wp2_with (first | ((with_reducible refine gate_dst (N := 6) rfl ?_); (try (refine gate_guard (by rfl) ?_; dsimp only)); refine box_event ?hg (N := 6) ?hd (cs := #[.int .i64 0, .int .u8 0, .int .i64 0]) (t := 101) ?hr ?_; (case hd => rfl); (case hg => rfl); (case hr => first | (go_simp; done) | (go_simp; rfl)); intro gb394 hg w28 hbox hb; have n0_ := Aside0.mk (blk_below (g := gb392) (o := .cells #[.int .i64 a1_0, .int .i64 a1_1, .int .i64 a1_2, .int .i64 a1_3, .int .i64 a1_4] 43 (0, 0)) (by (with_reducible repeat (first | refine blk_drewN ?_ _ | refine blk_drew ?_ | refine blk_alloc ?_ _)); exact BK392.out) hb); have n1_ := Aside0.mk (below_step (by repeat (first | (with_reducible first | exact HB.out | apply below_alloc | apply pw_below_drewN | apply below_drew1 | refine below_set ?_ GE392.out) | exact HB.out)) hb); have n2_ := Aside0.mk (hbox); have n3_ := Aside0.mk ((by rw [hg]; exact (below_size (by repeat (first | (with_reducible first | exact HB.out | apply below_alloc | apply pw_below_drewN | apply below_drew1 | refine below_set ?_ GE392.out) | exact HB.out))) : w.heap.size ≤ gb394)); have n4_ := Aside0.mk ((by rw [hg]; exact (below_size (by repeat (first | (with_reducible first | exact HB.out | apply below_alloc | apply pw_below_drewN | apply below_drew1 | refine below_set ?_ GE392.out) | exact HB.out))) : w.heap.size ≤ gb394)); have n5_ := Aside0.mk ((by rw [hg]; exact Nat.ne_of_lt (blk_lt (g := gb392) (o := .cells #[.int .i64 a1_0, .int .i64 a1_1, .int .i64 a1_2, .int .i64 a1_3, .int .i64 a1_4] 43 (0, 0)) (by (with_reducible repeat (first | refine blk_drewN ?_ _ | refine blk_drew ?_ | refine blk_alloc ?_ _)); exact BK392.out)) : gb392 ≠ gb394)); have n6_ := Aside0.mk ((by rw [hg]; exact Nat.ne_of_gt (blk_lt (g := gb392) (o := .cells #[.int .i64 a1_0, .int .i64 a1_1, .int .i64 a1_2, .int .i64 a1_3, .int .i64 a1_4] 43 (0, 0)) (by (with_reducible repeat (first | refine blk_drewN ?_ _ | refine blk_drew ?_ | refine blk_alloc ?_ _)); exact BK392.out)) : gb394 ≠ gb392)); clear BK392; clear HB; have BK392 := n0_; have HB := n1_; have BK394 := n2_; have GW394 := n3_; have GE394 := n4_; have NB392_394 := n5_; have NB394_392 := n6_; clear n0_ n1_ n2_ n3_ n4_ n5_ n6_; clear hb hbox hg; have hnb29 := NB394_392.out; have hnc29 := NB392_394.out; have hcz30_0 : w28.cell? ⟨gb394, 0, none⟩ = some (.int .i64 0) := (blk_cell BK394.out 0).trans rfl; have hcz30_1 : w28.cell? ⟨gb394, 1, none⟩ = some (.int .u8 0) := (blk_cell BK394.out 1).trans rfl; have hcz30_2 : w28.cell? ⟨gb394, 2, none⟩ = some (.int .i64 0) := (blk_cell BK394.out 2).trans rfl; have hfz30_0 := blk_frozen BK394.out 0; have hfz30_1 := blk_frozen BK394.out 1; have hfz30_2 := blk_frozen BK394.out 2; have hcz31_0 : w28.cell? ⟨gb392, 0, none⟩ = some (.int .i64 a1_0) := (blk_cell BK392.out 0).trans rfl; have hcz31_1 : w28.cell? ⟨gb392, 1, none⟩ = some (.int .i64 a1_1) := (blk_cell BK392.out 1).trans rfl; have hcz31_2 : w28.cell? ⟨gb392, 2, none⟩ = some (.int .i64 a1_2) := (blk_cell BK392.out 2).trans rfl; have hcz31_3 : w28.cell? ⟨gb392, 3, none⟩ = some (.int .i64 a1_3) := (blk_cell BK392.out 3).trans rfl; have hcz31_4 : w28.cell? ⟨gb392, 4, none⟩ = some (.int .i64 a1_4) := (blk_cell BK392.out 4).trans rfl; have hfz31_0 := blk_frozen BK392.out 0; have hfz31_1 := blk_frozen BK392.out 1; have hfz31_2 := blk_frozen BK392.out 2; have hfz31_3 := blk_frozen BK392.out 3; have hfz31_4 := blk_frozen BK392.out 4)))
        go_ret2
        exact ⟨by first | rfl | (simp [errW_none, errW_some] <;> rfl) | (simp [*, errW_none, errW_some] <;> rfl), by repeat (first | (with_reducible first | exact HB.out | apply below_alloc | apply pw_below_drewN | apply below_drew1 | refine below_set ?_ GE392.out | refine below_set ?_ GE394.out) | exact HB.out)⟩
      ·rw [if_neg c14] at H
       exact absurd H (by simp)
     ·rw [if_neg c13] at H
      exact absurd H (by simp)
mutual
def lines_end.l0 : Nat → List (S43) → Int → Int → Int → Int → Option (Int)
 | 0, _, _, _, _, _ => none
 | k + 1, x0, x1, x7, x8, x9 => if x9 ≤ (x0.length : Int) then (if x9 = (x0.length : Int) then (lines_end.j1 k x0 x1 x7 x8 x9 true) else (if 0 ≤ x9 then (if x9 < (x0.length : Int) then (lines_end.j1 k x0 x1 x7 x8 x9 (((rd_T43 x0 x9).f0) == 2)) else (none)) else (none))) else (some x7)
def lines_end.j1 : Nat → List (S43) → Int → Int → Int → Int → Bool → Option (Int)
 | 0, _, _, _, _, _, _ => none
 | k + 1, x0, x1, x7, x8, x9, x28 => if x28 = true then (if x7 ≥ 0 then (lines_end.j2 k x0 x1 x7 x8 x9 (decide (x8 > x1))) else (lines_end.j2 k x0 x1 x7 x8 x9 false)) else (if x9 < (x0.length : Int) then (if 0 ≤ x9 then ((lines_wide.f ((rd_T43 x0 x9).f0) ((rd_T43 x0 x9).f1) ((rd_T43 x0 x9).f2) ((rd_T43 x0 x9).f3) ((rd_T43 x0 x9).f4)).bind fun t433 => (lines_end.l0 k x0 x1 x7 (wrap64 (x8 + t433)) (wrap64 (x9 + 1)))) else (none)) else (lines_end.l0 k x0 x1 x7 x8 (wrap64 (x9 + 1))))
def lines_end.j2 : Nat → List (S43) → Int → Int → Int → Int → Bool → Option (Int)
 | 0, _, _, _, _, _, _ => none
 | k + 1, x0, x1, x7, x8, x9, x35 => if x35 = true then (some x7) else (if x8 > x1 then (some x9) else (if x9 < (x0.length : Int) then (if 0 ≤ x9 then ((lines_wide.f ((rd_T43 x0 x9).f0) ((rd_T43 x0 x9).f1) ((rd_T43 x0 x9).f2) ((rd_T43 x0 x9).f3) ((rd_T43 x0 x9).f4)).bind fun t431 => (lines_end.l0 k x0 x1 x9 (wrap64 (x8 + t431)) (wrap64 (x9 + 1)))) else (none)) else (lines_end.l0 k x0 x1 x9 x8 (wrap64 (x9 + 1)))))
end
def lines_end.f (k : Nat) (l0 : List (S43)) (a1 : Int) (a2 : Int) : Option (Int) := lines_end.l0 k l0 a1 (-1) 0 a2
theorem lines_end.mono_l : ∀ k, (∀ y0 y1 y2 y3 y4, LeO (lines_end.l0 k y0 y1 y2 y3 y4) (lines_end.l0 (k + 1) y0 y1 y2 y3 y4)) ∧ (∀ y0 y1 y2 y3 y4 y5, LeO (lines_end.j1 k y0 y1 y2 y3 y4 y5) (lines_end.j1 (k + 1) y0 y1 y2 y3 y4 y5)) ∧ (∀ y0 y1 y2 y3 y4 y5, LeO (lines_end.j2 k y0 y1 y2 y3 y4 y5) (lines_end.j2 (k + 1) y0 y1 y2 y3 y4 y5))
 | 0 => ⟨fun _ _ _ _ _ r h => by simp [lines_end.l0] at h, fun _ _ _ _ _ _ r h => by simp [lines_end.j1] at h, fun _ _ _ _ _ _ r h => by simp [lines_end.j2] at h⟩
 | k + 1 => by
  obtain ⟨ih0, ih1, ih2⟩ := lines_end.mono_l k
  refine ⟨?_, ?_, ?_⟩
  ·intro y0 y1 y2 y3 y4
   unfold lines_end.l0
   repeat' first
   | (with_reducible exact ih0 _ _ _ _ _)
   | (with_reducible exact ih1 _ _ _ _ _ _)
   | (with_reducible exact ih2 _ _ _ _ _ _)
   | (with_reducible exact LeO.refl _)
   | (with_reducible exact LeO.none _)
   | (with_reducible refine LeO.ite ?_ ?_)
   | (with_reducible refine LeO.bind ?_ (fun _ => ?_))
   | exact ih0 _ _ _ _ _
   | exact ih1 _ _ _ _ _ _
   | exact ih2 _ _ _ _ _ _
   | exact LeO.none _
   | refine LeO.ite ?_ ?_
   | refine LeO.bind ?_ (fun _ => ?_)
  ·intro y0 y1 y2 y3 y4 y5
   unfold lines_end.j1
   repeat' first
   | (with_reducible exact ih0 _ _ _ _ _)
   | (with_reducible exact ih1 _ _ _ _ _ _)
   | (with_reducible exact ih2 _ _ _ _ _ _)
   | (with_reducible exact LeO.refl _)
   | (with_reducible exact LeO.none _)
   | (with_reducible refine LeO.ite ?_ ?_)
   | (with_reducible refine LeO.bind ?_ (fun _ => ?_))
   | exact ih0 _ _ _ _ _
   | exact ih1 _ _ _ _ _ _
   | exact ih2 _ _ _ _ _ _
   | exact LeO.none _
   | refine LeO.ite ?_ ?_
   | refine LeO.bind ?_ (fun _ => ?_)
  ·intro y0 y1 y2 y3 y4 y5
   unfold lines_end.j2
   repeat' first
   | (with_reducible exact ih0 _ _ _ _ _)
   | (with_reducible exact ih1 _ _ _ _ _ _)
   | (with_reducible exact ih2 _ _ _ _ _ _)
   | (with_reducible exact LeO.refl _)
   | (with_reducible exact LeO.none _)
   | (with_reducible refine LeO.ite ?_ ?_)
   | (with_reducible refine LeO.bind ?_ (fun _ => ?_))
   | exact ih0 _ _ _ _ _
   | exact ih1 _ _ _ _ _ _
   | exact ih2 _ _ _ _ _ _
   | exact LeO.none _
   | refine LeO.ite ?_ ?_
   | refine LeO.bind ?_ (fun _ => ?_)
theorem lines_end.mono : ∀ a0 a1 a2 k, LeO (lines_end.f k a0 a1 a2) (lines_end.f (k + 1) a0 a1 a2) := by
 intro a0 a1 a2 k
 obtain ⟨ih0, ih1, ih2⟩ := lines_end.mono_l k
 unfold lines_end.f
 repeat' first
   | (with_reducible exact ih0 _ _ _ _ _)
   | (with_reducible exact ih1 _ _ _ _ _ _)
   | (with_reducible exact ih2 _ _ _ _ _ _)
   | (with_reducible exact LeO.refl _)
   | (with_reducible exact LeO.none _)
   | (with_reducible refine LeO.ite ?_ ?_)
   | (with_reducible refine LeO.bind ?_ (fun _ => ?_))
   | exact ih0 _ _ _ _ _
   | exact ih1 _ _ _ _ _ _
   | exact ih2 _ _ _ _ _ _
   | exact LeO.none _
   | refine LeO.ite ?_ ?_
   | refine LeO.bind ?_ (fun _ => ?_)
set_option maxHeartbeats 8000000 in
set_option maxRecDepth 100000 in
theorem lines_end.calls (k : Nat) (A0 : Option Addr) (c0 : Nat) (l0 : List (S43)) (a1 : Int) (a2 : Int) (r : Int) (w : World) (hr0 : Kd.C k43 w A0 l0.length l0) (hc0 : l0.length ≤ c0) (h : lines_end.f k l0 a1 a2 = some r) :
  Calls Try.prog 68 #[.slice A0 l0.length c0, .int .i64 a1, .int .i64 a2] w fun e w' => e = .returned (.int .i64 r) ∧ Below w.heap.size w w' := by
 have hu43 := Try.underlying43
 have HR0 := Aside0.mk hr0
 have HC0 := Aside0.mk hc0
 clear hr0 hc0
 have HB := Aside0.mk (Below.refl w.heap.size w)
 have H : (lines_end.l0 k l0 a1 (-1) 0 a2) = some r := h
 clear h
 have H' := Aside0.mk H
 clear H
 go_enter Try.func68, Try.ntmps68
 go_wp2
 go_loopg [7, 8, 9] k (fun kq v7 v8 v9 w' => ∃ (x7_1 : Int) (x8_1 : Int) (x9_1 : Int), v7 = .int .i64 x7_1 ∧ v8 = .int .i64 x8_1 ∧ v9 = .int .i64 x9_1 ∧ Aside0 (lines_end.l0 kq l0 a1 x7_1 x8_1 x9_1 = some r) ∧ Aside0 (kq ≤ k) ∧ Aside0 (Below w.heap.size w w'))
 case atStart => exact ⟨((-1)), (0), (a2), (by first | rfl | (simp; done) | (simp [*]; done)), (by first | rfl | (simp; done) | (simp [*]; done)), (by first | rfl | (simp; done) | (simp [*]; done)), H', ⟨Nat.le_refl _⟩, ⟨by repeat (first | (with_reducible first | exact HB.out | apply below_alloc | apply pw_below_drewN | apply below_drew1) | exact HB.out)⟩⟩
 case round =>
  clear H'
  try clear p2
  obtain ⟨x7_1, x8_1, x9_1, rfl, rfl, rfl, HA, HK1, HB⟩ := hrel
  cases gk with
  | zero => exact absurd HA.out (by simp [lines_end.l0])
  | succ k1 =>
   have H := HA.out
   clear HA
   simp only [lines_end.l0] at H
   by_cases c4 : x9_1 ≤ (l0.length : Int)
   ·rw [if_pos c4] at H
    have c4b0 : decide (x9_1 ≤ (l0.length : Int)) = true := decide_eq_true c4
    clear c4
    have HC5 := Aside0.mk H
    clear H
    go_upto_region 5 with (fail)
    go_cut [28] (fun v28 wc => ∃ (kq : Nat) (x28_4 : Bool), v28 = .bool x28_4 ∧ Aside0 (lines_end.j1 kq l0 a1 x7_1 x8_1 x9_1 x28_4 = some r) ∧ Aside0 (kq ≤ k1) ∧ Aside0 (Below w.heap.size w wc))
    case first =>
     have H := HC5.out
     clear HC5
     by_cases c6 : x9_1 = (l0.length : Int)
     ·rw [if_pos c6] at H
      have c6b0 : (x9_1 == (l0.length : Int)) = true := beq_iff_eq.mpr c6
      have c6b1 : (x9_1 != (l0.length : Int)) = false := bne_eq_false_iff_eq.mpr c6
      clear c6
      (first | rw [c6b0] | (simp only [i64_w, i32_w]; rw [c6b0]) | skip)
      have H' := Aside0.mk H
      clear H
      go_wp2
      go_meet
      case rel => exact ⟨_, (true), (by first | rfl | (simp; done) | (simp [*]; done)), H', ⟨by have := HK1.out; first | omega | exact Nat.le_refl _⟩, ⟨by repeat (first | (with_reducible first | exact HB.out | apply below_alloc | apply pw_below_drewN | apply below_drew1) | exact HB.out)⟩⟩
     ·rw [if_neg c6] at H
      have c6b0 : (x9_1 == (l0.length : Int)) = false := beq_eq_false_iff_ne.mpr c6
      have c6b1 : (x9_1 != (l0.length : Int)) = true := bne_iff_ne.mpr c6
      (first | rw [c6b0] | (simp only [i64_w, i32_w]; rw [c6b0]) | skip)
      by_cases c7 : 0 ≤ x9_1
      ·rw [if_pos c7] at H
       have c7b0 : decide (0 ≤ x9_1) = true := decide_eq_true c7
       clear c7
       by_cases c8 : x9_1 < (l0.length : Int)
       ·rw [if_pos c8] at H
        have c8b0 : decide (x9_1 < (l0.length : Int)) = true := decide_eq_true c8
        clear c8
        have H' := Aside0.mk H
        clear H
        have p429 : 0 ≤ (x9_1 : Int) := of_decide_eq_true (by first | (with_reducible assumption) | assumption)
        have q429 : x9_1 < (l0.length : Int) := of_decide_eq_true (by first | (with_reducible assumption) | assumption)
        obtain ⟨ad429, e429, hx429_0, hx429_1, hx429_2, hx429_3, hx429_4⟩ := at_T43 HR0.out x9_1 p429 q429
        cases e429
        replace hx429_0 := (HB.out.cell (World.block_lt_of_cell? w _ hx429_0)).trans hx429_0
        replace hx429_1 := (HB.out.cell (World.block_lt_of_cell? w _ hx429_1)).trans hx429_1
        replace hx429_2 := (HB.out.cell (World.block_lt_of_cell? w _ hx429_2)).trans hx429_2
        replace hx429_3 := (HB.out.cell (World.block_lt_of_cell? w _ hx429_3)).trans hx429_3
        replace hx429_4 := (HB.out.cell (World.block_lt_of_cell? w _ hx429_4)).trans hx429_4
        replace p429 := eq_true p429
        replace q429 := eq_true q429
        go_wp2
        go_meet
        case rel => exact ⟨_, ((((rd_T43 l0 x9_1).f0) == 2)), (by first | rfl | (simp; done) | (simp [*]; done)), H', ⟨by have := HK1.out; first | omega | exact Nat.le_refl _⟩, ⟨by repeat (first | (with_reducible first | exact HB.out | apply below_alloc | apply pw_below_drewN | apply below_drew1) | exact HB.out)⟩⟩
       ·rw [if_neg c8] at H
        exact absurd H (by simp)
      ·rw [if_neg c7] at H
       exact absurd H (by simp)
    case rest =>
     clear HC5
     try clear p2
     try clear c4
     try clear c4b0
     try clear p4
     try clear q4
     try clear hx4
     try clear c6
     try clear c6b0
     try clear c6b1
     try clear c7
     try clear c7b0
     try clear c8
     try clear c8b0
     try clear hx429_0
     try clear hx429_1
     try clear hx429_2
     try clear hx429_3
     try clear hx429_4
     try clear p2
     try clear p429
     try clear q429
     obtain ⟨kq, x28_4, rfl, HA, HJ4, HB⟩ := hcut
     cases kq with
     | zero => exact absurd HA.out (by simp [lines_end.j1])
     | succ kj4 =>
      have H := HA.out
      clear HA
      simp only [lines_end.j1] at H
      by_cases c9 : x28_4 = true
      ·subst c9
       have H1 : (if x7_1 ≥ 0 then (lines_end.j2 kj4 l0 a1 x7_1 x8_1 x9_1 (decide (x8_1 > a1))) else (lines_end.j2 kj4 l0 a1 x7_1 x8_1 x9_1 false)) = some r := by rw [if_pos rfl] at H; exact H
       clear H
       have H := H1
       clear H1
       have HC10 := Aside0.mk H
       clear H
       go_upto_region 6 with (fail)
       go_cut [35] (fun v35 wc => ∃ (kq : Nat) (x35_9 : Bool), v35 = .bool x35_9 ∧ Aside0 (lines_end.j2 kq l0 a1 x7_1 x8_1 x9_1 x35_9 = some r) ∧ Aside0 (kq ≤ kj4) ∧ Aside0 (Below w.heap.size w wc))
       case first =>
        have H := HC10.out
        clear HC10
        by_cases c11 : x7_1 ≥ 0
        ·rw [if_pos c11] at H
         have c11b0 : decide (0 ≤ x7_1) = true := decide_eq_true c11
         clear c11
         (first | rw [c11b0] | (simp only [i64_w, i32_w]; rw [c11b0]) | skip)
         have H' := Aside0.mk H
         clear H
         go_wp2
         go_meet
         case rel => exact ⟨_, (decide (x8_1 > a1)), (by first | rfl | (simp; done) | (simp [*]; done)), H', ⟨by have := HK1.out; have := HJ4.out; first | omega | exact Nat.le_refl _⟩, ⟨by repeat (first | (with_reducible first | exact HB.out | apply below_alloc | apply pw_below_drewN | apply below_drew1) | exact HB.out)⟩⟩
        ·rw [if_neg c11] at H
         have c11b0 : decide (0 ≤ x7_1) = false := decide_eq_false c11
         clear c11
         (first | rw [c11b0] | (simp only [i64_w, i32_w]; rw [c11b0]) | skip)
         have H' := Aside0.mk H
         clear H
         go_wp2
         go_meet
         case rel => exact ⟨_, (false), (by first | rfl | (simp; done) | (simp [*]; done)), H', ⟨by have := HK1.out; have := HJ4.out; first | omega | exact Nat.le_refl _⟩, ⟨by repeat (first | (with_reducible first | exact HB.out | apply below_alloc | apply pw_below_drewN | apply below_drew1) | exact HB.out)⟩⟩
       case rest =>
        clear HC10
        try clear c1
        try clear p2
        try clear c4
        try clear c4b0
        try clear p4
        try clear q4
        try clear hx4
        try clear c6
        try clear c6b0
        try clear c6b1
        try clear c7
        try clear c7b0
        try clear c8
        try clear c8b0
        try clear c9
        try clear c11
        try clear c11b0
        try clear hx429_0
        try clear hx429_1
        try clear hx429_2
        try clear hx429_3
        try clear hx429_4
        try clear p2
        try clear p4
        try clear p429
        try clear q4
        try clear q429
        obtain ⟨kq, x35_9, rfl, HA, HJ9, HB⟩ := hcut
        cases kq with
        | zero => exact absurd HA.out (by simp [lines_end.j2])
        | succ kj9 =>
         have H := HA.out
         clear HA
         simp only [lines_end.j2] at H
         by_cases c12 : x35_9 = true
         ·subst c12
          have H1 : (some x7_1) = some r := by rw [if_pos rfl] at H; exact H
          clear H
          have H := H1
          clear H1
          obtain rfl := Option.some.inj H
          go_wp2
          go_ret
          exact ⟨by first | rfl | (simp [errW_none, errW_some] <;> rfl) | (simp [*, errW_none, errW_some] <;> rfl), by repeat (first | (with_reducible first | exact HB.out | apply below_alloc | apply pw_below_drewN | apply below_drew1) | exact HB.out)⟩
         ·replace c12 := Bool.eq_false_iff.mpr c12
          subst c12
          have H1 : (if x8_1 > a1 then (some x9_1) else (if x9_1 < (l0.length : Int) then (if 0 ≤ x9_1 then ((lines_wide.f ((rd_T43 l0 x9_1).f0) ((rd_T43 l0 x9_1).f1) ((rd_T43 l0 x9_1).f2) ((rd_T43 l0 x9_1).f3) ((rd_T43 l0 x9_1).f4)).bind fun t431 => (lines_end.l0 kj9 l0 a1 x9_1 (wrap64 (x8_1 + t431)) (wrap64 (x9_1 + 1)))) else (none)) else (lines_end.l0 kj9 l0 a1 x9_1 x8_1 (wrap64 (x9_1 + 1))))) = some r := by rw [if_neg (show ¬ (false = true) by decide)] at H; exact H
          clear H
          have H := H1
          clear H1
          by_cases c13 : x8_1 > a1
          ·rw [if_pos c13] at H
           have c13b0 : decide (a1 < x8_1) = true := decide_eq_true c13
           clear c13
           obtain rfl := Option.some.inj H
           go_wp2
           go_ret
           exact ⟨by first | rfl | (simp [errW_none, errW_some] <;> rfl) | (simp [*, errW_none, errW_some] <;> rfl), by repeat (first | (with_reducible first | exact HB.out | apply below_alloc | apply pw_below_drewN | apply below_drew1) | exact HB.out)⟩
          ·rw [if_neg c13] at H
           have c13b0 : decide (a1 < x8_1) = false := decide_eq_false c13
           clear c13
           by_cases c14 : x9_1 < (l0.length : Int)
           ·rw [if_pos c14] at H
            have c14b0 : decide (x9_1 < (l0.length : Int)) = true := decide_eq_true c14
            clear c14
            by_cases c15 : 0 ≤ x9_1
            ·rw [if_pos c15] at H
             have c15b0 : decide (0 ≤ x9_1) = true := decide_eq_true c15
             clear c15
             replace H := Option.bind_eq_some_iff.mp H
             obtain ⟨t431, A160, H⟩ := H
             replace H : (lines_end.l0 kj9 l0 a1 x9_1 (wrap64 (x8_1 + t431)) (wrap64 (x9_1 + 1))) = some r := H
             have A16 := Aside0.mk A160
             clear A160
             have H' := Aside0.mk H
             clear H
             have p430 : 0 ≤ (x9_1 : Int) := of_decide_eq_true (by first | (with_reducible assumption) | assumption)
             have q430 : x9_1 < (l0.length : Int) := of_decide_eq_true (by first | (with_reducible assumption) | assumption)
             obtain ⟨ad430, e430, hx430_0, hx430_1, hx430_2, hx430_3, hx430_4⟩ := at_T43 HR0.out x9_1 p430 q430
             cases e430
             replace hx430_0 := (HB.out.cell (World.block_lt_of_cell? w _ hx430_0)).trans hx430_0
             replace hx430_1 := (HB.out.cell (World.block_lt_of_cell? w _ hx430_1)).trans hx430_1
             replace hx430_2 := (HB.out.cell (World.block_lt_of_cell? w _ hx430_2)).trans hx430_2
             replace hx430_3 := (HB.out.cell (World.block_lt_of_cell? w _ hx430_3)).trans hx430_3
             replace hx430_4 := (HB.out.cell (World.block_lt_of_cell? w _ hx430_4)).trans hx430_4
             replace p430 := eq_true p430
             replace q430 := eq_true q430
             go_wp2_with (first | ((with_reducible refine gate_callee (f := 81) rfl ?_); refine goesL_ (some 51) rfl rfl Try.func81 (by kernel_rfl) rfl #[.agg #[.int .i64 ((rd_T43 l0 x9_1).f0), .int .i64 ((rd_T43 l0 x9_1).f1), .int .i64 ((rd_T43 l0 x9_1).f2), .int .i64 ((rd_T43 l0 x9_1).f3), .int .i64 ((rd_T43 l0 x9_1).f4)]] rfl (by (try simp only [List.map_toArray, List.map_cons, List.map_nil]); first | done | rfl | (simp only [List.length_drop, List.length_take]; rfl)) ?_; (with_reducible refine (lines_wide.calls ((rd_T43 l0 x9_1).f0) ((rd_T43 l0 x9_1).f1) ((rd_T43 l0 x9_1).f2) ((rd_T43 l0 x9_1).f3) ((rd_T43 l0 x9_1).f4) t431 _ A16.out).mono ?_); rintro e w17 ⟨rfl, hb⟩; refine ⟨_, rfl, ?_⟩; have n0_ := Aside0.mk (below_step (by repeat (first | (with_reducible first | exact HB.out | apply below_alloc | apply pw_below_drewN | apply below_drew1) | exact HB.out)) hb); clear HB; have HB := n0_; clear n0_; (try clear hb); (try clear hb2); (try clear hk); (try clear hi)))
             go_roundg kj9
             case measure => have := HK1.out; have := HJ4.out; have := HJ9.out; omega
             case rel => exact ⟨(x9_1), (wrap64 (x8_1 + t431)), (wrap64 (x9_1 + 1)), (by first | rfl | (simp; done) | (simp [*]; done)), (by first | rfl | (simp; done) | (simp [*]; done)), (by first | rfl | (simp; done) | (simp [*]; done)), H', ⟨by have := HK1.out; have := HJ4.out; have := HJ9.out; omega⟩, ⟨by repeat (first | (with_reducible first | exact HB.out | apply below_alloc | apply pw_below_drewN | apply below_drew1) | exact HB.out)⟩⟩
            ·rw [if_neg c15] at H
             exact absurd H (by simp)
           ·rw [if_neg c14] at H
            have c14b0 : decide (x9_1 < (l0.length : Int)) = false := decide_eq_false c14
            clear c14
            have H' := Aside0.mk H
            clear H
            go_wp2
            go_roundg kj9
            case measure => have := HK1.out; have := HJ4.out; have := HJ9.out; omega
            case rel => exact ⟨(x9_1), (x8_1), (wrap64 (x9_1 + 1)), (by first | rfl | (simp; done) | (simp [*]; done)), (by first | rfl | (simp; done) | (simp [*]; done)), (by first | rfl | (simp; done) | (simp [*]; done)), H', ⟨by have := HK1.out; have := HJ4.out; have := HJ9.out; omega⟩, ⟨by repeat (first | (with_reducible first | exact HB.out | apply below_alloc | apply pw_below_drewN | apply below_drew1) | exact HB.out)⟩⟩
      ·replace c9 := Bool.eq_false_iff.mpr c9
       subst c9
       have H1 : (if x9_1 < (l0.length : Int) then (if 0 ≤ x9_1 then ((lines_wide.f ((rd_T43 l0 x9_1).f0) ((rd_T43 l0 x9_1).f1) ((rd_T43 l0 x9_1).f2) ((rd_T43 l0 x9_1).f3) ((rd_T43 l0 x9_1).f4)).bind fun t433 => (lines_end.l0 kj4 l0 a1 x7_1 (wrap64 (x8_1 + t433)) (wrap64 (x9_1 + 1)))) else (none)) else (lines_end.l0 kj4 l0 a1 x7_1 x8_1 (wrap64 (x9_1 + 1)))) = some r := by rw [if_neg (show ¬ (false = true) by decide)] at H; exact H
       clear H
       have H := H1
       clear H1
       by_cases c18 : x9_1 < (l0.length : Int)
       ·rw [if_pos c18] at H
        have c18b0 : decide (x9_1 < (l0.length : Int)) = true := decide_eq_true c18
        clear c18
        by_cases c19 : 0 ≤ x9_1
        ·rw [if_pos c19] at H
         have c19b0 : decide (0 ≤ x9_1) = true := decide_eq_true c19
         clear c19
         replace H := Option.bind_eq_some_iff.mp H
         obtain ⟨t433, A200, H⟩ := H
         replace H : (lines_end.l0 kj4 l0 a1 x7_1 (wrap64 (x8_1 + t433)) (wrap64 (x9_1 + 1))) = some r := H
         have A20 := Aside0.mk A200
         clear A200
         have H' := Aside0.mk H
         clear H
         have p432 : 0 ≤ (x9_1 : Int) := of_decide_eq_true (by first | (with_reducible assumption) | assumption)
         have q432 : x9_1 < (l0.length : Int) := of_decide_eq_true (by first | (with_reducible assumption) | assumption)
         obtain ⟨ad432, e432, hx432_0, hx432_1, hx432_2, hx432_3, hx432_4⟩ := at_T43 HR0.out x9_1 p432 q432
         cases e432
         replace hx432_0 := (HB.out.cell (World.block_lt_of_cell? w _ hx432_0)).trans hx432_0
         replace hx432_1 := (HB.out.cell (World.block_lt_of_cell? w _ hx432_1)).trans hx432_1
         replace hx432_2 := (HB.out.cell (World.block_lt_of_cell? w _ hx432_2)).trans hx432_2
         replace hx432_3 := (HB.out.cell (World.block_lt_of_cell? w _ hx432_3)).trans hx432_3
         replace hx432_4 := (HB.out.cell (World.block_lt_of_cell? w _ hx432_4)).trans hx432_4
         replace p432 := eq_true p432
         replace q432 := eq_true q432
         go_wp2_with (first | ((with_reducible refine gate_callee (f := 81) rfl ?_); refine goesL_ (some 51) rfl rfl Try.func81 (by kernel_rfl) rfl #[.agg #[.int .i64 ((rd_T43 l0 x9_1).f0), .int .i64 ((rd_T43 l0 x9_1).f1), .int .i64 ((rd_T43 l0 x9_1).f2), .int .i64 ((rd_T43 l0 x9_1).f3), .int .i64 ((rd_T43 l0 x9_1).f4)]] rfl (by (try simp only [List.map_toArray, List.map_cons, List.map_nil]); first | done | rfl | (simp only [List.length_drop, List.length_take]; rfl)) ?_; (with_reducible refine (lines_wide.calls ((rd_T43 l0 x9_1).f0) ((rd_T43 l0 x9_1).f1) ((rd_T43 l0 x9_1).f2) ((rd_T43 l0 x9_1).f3) ((rd_T43 l0 x9_1).f4) t433 _ A20.out).mono ?_); rintro e w21 ⟨rfl, hb⟩; refine ⟨_, rfl, ?_⟩; have n0_ := Aside0.mk (below_step (by repeat (first | (with_reducible first | exact HB.out | apply below_alloc | apply pw_below_drewN | apply below_drew1) | exact HB.out)) hb); clear HB; have HB := n0_; clear n0_; (try clear hb); (try clear hb2); (try clear hk); (try clear hi)))
         go_roundg kj4
         case measure => have := HK1.out; have := HJ4.out; omega
         case rel => exact ⟨(x7_1), (wrap64 (x8_1 + t433)), (wrap64 (x9_1 + 1)), (by first | rfl | (simp; done) | (simp [*]; done)), (by first | rfl | (simp; done) | (simp [*]; done)), (by first | rfl | (simp; done) | (simp [*]; done)), H', ⟨by have := HK1.out; have := HJ4.out; omega⟩, ⟨by repeat (first | (with_reducible first | exact HB.out | apply below_alloc | apply pw_below_drewN | apply below_drew1) | exact HB.out)⟩⟩
        ·rw [if_neg c19] at H
         exact absurd H (by simp)
       ·rw [if_neg c18] at H
        have c18b0 : decide (x9_1 < (l0.length : Int)) = false := decide_eq_false c18
        clear c18
        have H' := Aside0.mk H
        clear H
        go_wp2
        go_roundg kj4
        case measure => have := HK1.out; have := HJ4.out; omega
        case rel => exact ⟨(x7_1), (x8_1), (wrap64 (x9_1 + 1)), (by first | rfl | (simp; done) | (simp [*]; done)), (by first | rfl | (simp; done) | (simp [*]; done)), (by first | rfl | (simp; done) | (simp [*]; done)), H', ⟨by have := HK1.out; have := HJ4.out; omega⟩, ⟨by repeat (first | (with_reducible first | exact HB.out | apply below_alloc | apply pw_below_drewN | apply below_drew1) | exact HB.out)⟩⟩
   ·rw [if_neg c4] at H
    have c4b0 : decide (x9_1 ≤ (l0.length : Int)) = false := decide_eq_false c4
    clear c4
    obtain rfl := Option.some.inj H
    go_wp2
    go_ret
    exact ⟨by first | rfl | (simp [errW_none, errW_some] <;> rfl) | (simp [*, errW_none, errW_some] <;> rfl), by repeat (first | (with_reducible first | exact HB.out | apply below_alloc | apply pw_below_drewN | apply below_drew1) | exact HB.out)⟩
end Go.Proofs.Ytbddfnmhhmkfkaa.Pr
namespace Go.Det
open Go
set_option linter.unusedVariables false
variable {P : Program} {ops : Array Oper} {Q : Exit → Act → World → Prop} {S : World → Prop}
def NoOut : Exit → Act → World → Prop := fun _ _ _ => False
theorem noOut_lets : ¬ LetsOut NoOut := fun ⟨_, _, h⟩ => h
theorem upon_imp {o : Oper} {a : Act} {K K' : Act → World → Prop} {r : Result Next} (h : ∀ a w, K a w → K' a w) (hh : o.upon P a K NoOut r) : o.upon P a K' Q r := by
 cases r with
 | ok n w' =>
  cases n <;> simp only [Oper.upon] at hh ⊢ <;>
   first
    | exact h _ _ hh
    | exact Calls.mono hh (fun e w'' he => by cases e <;> first | exact h _ _ he | exact he.elim | exact (noOut_lets he).elim)
    | exact Rows.mono hh (fun _ _ he => h _ _ he)
 | halt x w' => cases x <;> simp only [Oper.upon] at hh ⊢ <;> exact hh.elim
theorem put_inj {a b : Act} {dst : Option Tmp} {u v : Value} (hs : b.tmps.size = a.tmps.size) (h : a.put dst u = a.put dst v) : b.put dst u = b.put dst v := by
 cases dst with
 | none => rfl
 | some d =>
  by_cases hd : d < a.tmps.size
  ·have h1 : (a.put (some d) u).tmps[d]? = (a.put (some d) v).tmps[d]? := by rw [h]
   simp only [Act.put, Array.getElem?_setIfInBounds, if_pos hd, if_true, Option.some.injEq] at h1
   rw [h1]
  ·simp only [Act.put]
   rw [Array.setIfInBounds_eq_of_size_le (by rw [hs]; exact Nat.le_of_not_lt hd), Array.setIfInBounds_eq_of_size_le (by rw [hs]; exact Nat.le_of_not_lt hd)]
theorem upon_same {o : Oper} {x y : Act} {v : Value} {r : Result Next} (hs : y.tmps.size = x.tmps.size) (hh : o.upon P x (fun a' w' => a' = x.put o.dst v ∧ S w') NoOut r) :
  o.upon P y (fun a' w' => a' = y.put o.dst v ∧ S w') NoOut r := by
 cases r with
 | ok n w' =>
  cases n <;> simp only [Oper.upon] at hh ⊢ <;>
   first
    | exact ⟨put_inj hs hh.1, hh.2⟩
    | exact Calls.mono hh (fun e w'' he => by cases e <;> first | exact ⟨put_inj hs he.1, he.2⟩ | exact he.elim | exact (noOut_lets he).elim)
    | exact Rows.mono hh (fun _ _ he => ⟨put_inj hs he.1, he.2⟩)
    | skip
  rename_i d
  exfalso
  have := congrArg (fun a : Act => a.defers.length) hh.1
  cases hd : o.dst <;> simp [hd, Act.put] at this
 | halt x w' => cases x <;> simp only [Oper.upon] at hh ⊢ <;> exact hh.elim
def StepV (P : Program) (ops : Array Oper) (S : World → Prop) (a : Act) (o : Oper) (v : Value) : Prop :=
 (Region.wanted o (yielded ops a.tmps) = true ∧ ∀ w, S w → o.wp P a w (fun a' w' => a' = a.put o.dst v ∧ S w') NoOut) ∨
 (Region.wanted o (yielded ops a.tmps) = false ∧ v = undef)
def SeqL (P : Program) (ops : Array Oper) (S : World → Prop) (R : Act → Prop) : List Oper → Act → Prop
 | [], a => R a
 | o :: rest, a => ∃ v, StepV P ops S a o v ∧ SeqL P ops S R rest (a.put o.dst v)
def okAt (ops : Array Oper) (i : Nat) (o : Oper) : Bool :=
 (o.after.all fun e => !Region.binds .any e || decide (e.on < i)) &&
 ((List.range ops.size).all fun j => match ops[j]? with
  | none => true
  | some oj =>
   (match oj.dst with
    | none => true
    | some t => (j == i || o.dst != some t) &&
     (!(o.looksAt ops).contains t || (o.after.any fun e => Region.binds .any e && e.on == j) || (j != i && oj.after.any fun e => Region.binds .any e && e.on == i)))) &&
 (match o.op with | .select _ _ => false | _ => true)
def okOps (ops : Array Oper) : Bool := (List.range ops.size).all fun i => match ops[i]? with | none => true | some o => okAt ops i o
structure Ok (ops : Array Oper) : Prop where
 back : ∀ (i : Nat) (o : Oper), ops[i]? = some o → ∀ e ∈ o.after, Region.binds .any e = true → e.on < i
 apart : ∀ (i : Nat) (o : Oper) (j : Nat) (oj : Oper) (t : Tmp), ops[i]? = some o → ops[j]? = some oj → oj.dst = some t → j ≠ i → o.dst ≠ some t
 reads : ∀ (i : Nat) (o : Oper) (j : Nat) (oj : Oper) (t : Tmp), ops[i]? = some o → ops[j]? = some oj → oj.dst = some t → t ∈ o.looksAt ops →
  (∃ e ∈ o.after, Region.binds .any e = true ∧ e.on = j) ∨ (j ≠ i ∧ ∃ e ∈ oj.after, Region.binds .any e = true ∧ e.on = i)
 plain : ∀ (i : Nat) (o : Oper), ops[i]? = some o → ∀ cs b, o.op ≠ .select cs b
theorem lt_of_some {i : Nat} {o : Oper} (h : ops[i]? = some o) : i < ops.size := (Array.getElem?_eq_some_iff.1 h).1
theorem okOps_spec (h : okOps ops = true) : Ok ops := by
 have hat : ∀ (i : Nat) (o : Oper), ops[i]? = some o → okAt ops i o = true := fun i o hi => by
  have := List.all_eq_true.1 h i (List.mem_range.2 (lt_of_some hi))
  simpa [hi] using this
 have pair : ∀ (i : Nat) (o : Oper) (j : Nat) (oj : Oper) (t : Tmp), ops[i]? = some o → ops[j]? = some oj → oj.dst = some t → ((j == i || o.dst != some t) &&
     (!(o.looksAt ops).contains t || (o.after.any fun e => Region.binds .any e && e.on == j) || (j != i && oj.after.any fun e => Region.binds .any e && e.on == i))) = true := fun i o j oj t hi hj hd => by
  have := hat i o hi
  simp only [okAt, Bool.and_eq_true] at this
  have h2 := List.all_eq_true.1 this.1.2 j (List.mem_range.2 (lt_of_some hj))
  simp only [hj, hd] at h2
  exact h2
 refine ⟨fun i o hi e he hbe => ?_, fun i o j oj t hi hj hd hne => ?_, fun i o j oj t hi hj hd ht => ?_, fun i o hi cs b hs => ?_⟩
 ·have := hat i o hi
  simp only [okAt, Bool.and_eq_true] at this
  have := (Array.all_eq_true_iff_forall_mem.1 this.1.1) e he
  simpa [hbe] using this
 ·have := pair i o j oj t hi hj hd
  simp only [Bool.and_eq_true, Bool.or_eq_true, beq_iff_eq, bne_iff_ne] at this
  rcases this.1 with h1 | h1
  ·exact absurd h1 hne
  ·exact h1
 ·have := pair i o j oj t hi hj hd
  simp only [Bool.and_eq_true, Bool.or_eq_true, beq_iff_eq, bne_iff_ne, Bool.not_eq_true', Array.any_eq_true'] at this
  rcases this.2 with (h1 | h1) | ⟨h0, h1⟩
  ·rw [List.contains_eq_mem] at h1
   simp [ht] at h1
  ·obtain ⟨e, he, h2⟩ := h1
   exact .inl ⟨e, he, by simpa using h2⟩
  ·obtain ⟨e, he, h2⟩ := h1
   exact .inr ⟨h0, e, he, by simpa using h2⟩
 ·have := hat i o hi
  simp only [okAt, Bool.and_eq_true, hs] at this
  exact absurd this.2 (by simp)
def Fr (ops : Array Oper) (val : Nat → Value) (a : Act) (L : Nat → Bool) (x : Act) : Prop :=
 x.defers = a.defers ∧ x.tmps.size = a.tmps.size ∧ ∀ t, t < a.tmps.size →
  (∀ i o, ops[i]? = some o → L i = true → o.dst = some t → x.tmps[t]? = some (val i)) ∧
  ((∀ i o, ops[i]? = some o → L i = true → o.dst ≠ some t) → x.tmps[t]? = a.tmps[t]?)
theorem fr_start (val : Nat → Value) (a : Act) (L : Nat → Bool) (h : ∀ i, i < ops.size → L i = false) : Fr ops val a L a :=
 ⟨rfl, rfl, fun t ht => ⟨fun i o hi hl => (by rw [h i (lt_of_some hi)] at hl; exact absurd hl (by simp)), fun _ => rfl⟩⟩
theorem fr_congr {val val' : Nat → Value} {a x : Act} {L L' : Nat → Bool} (h : Fr ops val a L x) (hL : ∀ i, i < ops.size → L' i = L i) (hv : ∀ i, L i = true → val' i = val i) : Fr ops val' a L' x :=
 ⟨h.1, h.2.1, fun t ht => ⟨fun i o hi hl hd => by
   have hl' : L i = true := by rw [← hL i (lt_of_some hi)]; exact hl
   rw [hv i hl']; exact (h.2.2 t ht).1 i o hi hl' hd,
  fun hn => (h.2.2 t ht).2 fun i o hi hl => hn i o hi (by rw [hL i (lt_of_some hi)]; exact hl)⟩⟩
theorem fr_put (ok : Ok ops) {val : Nat → Value} {a x : Act} {L L' : Nat → Bool} {i : Nat} {o : Oper} (hi : ops[i]? = some o) (h : Fr ops val a L x)
  (hL : ∀ j, j < ops.size → L' j = (L j || j == i)) : Fr ops val a L' (x.put o.dst (val i)) := by
 obtain ⟨h1, h2, h3⟩ := h
 cases hd : o.dst with
 | none =>
  refine ⟨h1, h2, fun t ht => ⟨fun j oj hj hl hdj => ?_, fun hn => ?_⟩⟩
  ·rw [hL j (lt_of_some hj)] at hl
   rcases Bool.or_eq_true .. ▸ hl with hl | hl
   ·exact (h3 t ht).1 j oj hj hl hdj
   ·have : j = i := by simpa using hl
    subst this
    rw [hi] at hj
    cases hj
    rw [hd] at hdj
    cases hdj
  ·exact (h3 t ht).2 fun j oj hj hl => hn j oj hj (by rw [hL j (lt_of_some hj), hl]; rfl)
 | some d =>
  refine ⟨h1, by simp [Act.put, h2], fun t ht => ?_⟩
  by_cases htd : d = t
  ·subst htd
   have hv : (x.put (some d) (val i)).tmps[d]? = some (val i) := by simp [Act.put, h2, ht]
   refine ⟨fun j oj hj hl hdj => ?_, fun hn => absurd hd (hn i o hi (by rw [hL i (lt_of_some hi)]; simp))⟩
   by_cases hji : j = i
   ·subst hji; exact hv
   ·exact absurd hd (ok.apart i o j oj d hi hj hdj hji)
  ·have hv : (x.put (some d) (val i)).tmps[t]? = x.tmps[t]? := by simp [Act.put, Array.getElem?_setIfInBounds_ne htd]
   rw [hv]
   refine ⟨fun j oj hj hl hdj => ?_, fun hn => (h3 t ht).2 fun j oj hj hl => hn j oj hj (by rw [hL j (lt_of_some hj), hl]; rfl)⟩
   rw [hL j (lt_of_some hj)] at hl
   rcases Bool.or_eq_true .. ▸ hl with hl | hl
   ·exact (h3 t ht).1 j oj hj hl hdj
   ·have : j = i := by simpa using hl
    subst this
    rw [hi] at hj
    cases hj
    rw [hd] at hdj
    cases hdj
    exact absurd rfl htd
theorem fr_same {val : Nat → Value} {a x y : Act} {L L' : Nat → Bool} (hx : Fr ops val a L x) (hy : Fr ops val a L' y) (t : Tmp)
  (h : ∀ j oj, ops[j]? = some oj → oj.dst = some t → L j = L' j) : x.tmps[t]? = y.tmps[t]? := by
 by_cases ht : t < a.tmps.size
 ·by_cases hex : ∃ j oj, ops[j]? = some oj ∧ L j = true ∧ oj.dst = some t
  ·obtain ⟨j, oj, hj, hl, hd⟩ := hex
   rw [(hx.2.2 t ht).1 j oj hj hl hd, (hy.2.2 t ht).1 j oj hj (by rw [← h j oj hj hd]; exact hl) hd]
  ·have hn : ∀ j oj, ops[j]? = some oj → L j = true → oj.dst ≠ some t := fun j oj hj hl hd => hex ⟨j, oj, hj, hl, hd⟩
   rw [(hx.2.2 t ht).2 hn, (hy.2.2 t ht).2 fun j oj hj hl hd => hn j oj hj (by rw [h j oj hj hd]; exact hl) hd]
 ·rw [Array.getElem?_eq_none (by rw [hx.2.1]; exact Nat.le_of_not_lt ht), Array.getElem?_eq_none (by rw [hy.2.1]; exact Nat.le_of_not_lt ht)]
theorem fr_eq {val : Nat → Value} {a x y : Act} {L L' : Nat → Bool} (hx : Fr ops val a L x) (hy : Fr ops val a L' y) (h : ∀ j, j < ops.size → L j = L' j) : x = y := by
 have h1 : x.tmps = y.tmps := Array.ext_getElem? fun t => fr_same hx hy t fun j oj hj _ => h j (lt_of_some hj)
 have h2 : x.defers = y.defers := hx.1.trans hy.1.symm
 cases x; cases y; simp_all
theorem step_same (ok : Ok ops) {val : Nat → Value} {a x y : Act} {L L' : Nat → Bool} {i : Nat} {o : Oper} {v : Value} (hi : ops[i]? = some o) (hx : Fr ops val a L x) (hy : Fr ops val a L' y)
  (h : ∀ j oj t, ops[j]? = some oj → oj.dst = some t → t ∈ o.looksAt ops → L j = L' j) (hs : StepV P ops S x o v) : StepV P ops S y o v := by
 have hev : execOp y.eval o = execOp x.eval o := execOp_congr o (ok.plain i o hi) fun z hz => by
  cases z with
  | tmp t =>
   have := fr_same hx hy t fun j oj hj hd => h j oj t hj hd (List.mem_append_left _ (List.mem_filterMap.2 ⟨.tmp t, by simpa using hz, rfl⟩))
   simp [Act.eval, Array.getD_eq_getD_getElem?, this]
  | _ => rfl
 have hw : Region.wanted o (yielded ops y.tmps) = Region.wanted o (yielded ops x.tmps) := by
  unfold Region.wanted
  cases hg : o.guard with
  | none => rfl
  | some gw =>
   obtain ⟨g, want⟩ := gw
   have : yielded ops y.tmps g = yielded ops x.tmps g := by
    unfold yielded
    cases ht : (ops[g]?).bind (·.dst) with
    | none => rfl
    | some t =>
     have := fr_same hx hy t fun j oj hj hd => h j oj t hj hd (by simp [Oper.looksAt, hg, ht])
     simp [this]
   simp only [this]
 have hsz : y.tmps.size = x.tmps.size := by rw [hx.2.1, hy.2.1]
 rcases hs with ⟨h1, h2⟩ | h1
 ·refine .inl ⟨by rw [hw]; exact h1, fun w hS => ?_⟩
  have := h2 w hS
  unfold Oper.wp at this ⊢
  rw [hev]
  exact upon_same hsz this
 ·exact .inr (by rw [hw]; exact h1)
def cnt (L : Nat → Bool) : Nat → Nat
 | 0 => 0
 | k + 1 => cnt L k + (if L k = true then 0 else 1)
theorem cnt_zero (L : Nat → Bool) : ∀ n, cnt L n = 0 → ∀ i, i < n → L i = true
 | 0, _, i, hi => absurd hi (by omega)
 | n + 1, h, i, hi => by
  simp only [cnt] at h
  by_cases hin : i = n
  ·subst hin
   by_cases hl : L i = true
   ·exact hl
   ·rw [if_neg hl] at h; omega
  ·exact cnt_zero L n (by omega) i (by omega)
theorem cnt_set (L L' : Nat → Bool) (i : Nat) (hi : L i = false) (hL : ∀ j, L' j = (L j || j == i)) : ∀ n, (i < n → cnt L' n + 1 = cnt L n) ∧ (n ≤ i → cnt L' n = cnt L n)
 | 0 => ⟨fun h => absurd h (by omega), fun _ => rfl⟩
 | n + 1 => by
  obtain ⟨h1, h2⟩ := cnt_set L L' i hi hL n
  simp only [cnt, hL n]
  refine ⟨fun h => ?_, fun h => ?_⟩
  ·by_cases hin : i = n
   ·subst hin
    rw [h2 (by omega), hi]
    simp
   ·have := h1 (by omega)
    simp only [show (n == i) = false by simpa using Ne.symm hin, Bool.or_false]
    omega
  ·rw [h2 (by omega)]
   simp only [show (n == i) = false by simp; omega, Bool.or_false]
def waits (ops : Array Oper) : Nat → Nat → Nat → Bool
 | 0, _, _ => false
 | n + 1, j, i => match ops[j]? with
  | none => false
  | some o => o.after.any fun e => Region.binds .any e && (e.on == i || waits ops n e.on i)
def tailOk (ops : Array Oper) (k : Nat) : Bool := (List.range ops.size).all fun j => decide (j < k) || (List.range j).all fun i => waits ops ops.size j i
theorem waits_listed {listed : Array Bool} (hcl : ∀ (i : Nat) (o : Oper), ops[i]? = some o → listed.getD i false = true → ∀ e ∈ o.after, Region.binds .any e = true → listed.getD e.on false = true) :
  ∀ (n j i : Nat), (∀ (o : Oper), ops[j]? = some o → ∀ e ∈ o.after, Region.binds .any e = true → listed.getD e.on false = true) → waits ops n j i = true → listed.getD i false = true
 | 0, j, i, _, h => by simp [waits] at h
 | n + 1, j, i, hj, h => by
  simp only [waits] at h
  split at h
  ·cases h
  ·rename_i o ho
   obtain ⟨e, he, h2⟩ := Array.any_eq_true'.1 h
   simp only [Bool.and_eq_true, Bool.or_eq_true, beq_iff_eq] at h2
   have hl := hj o ho e he h2.1
   rcases h2.2 with h3 | h3
   ·rw [← h3]; exact hl
   ·exact waits_listed hcl n e.on i (fun o' ho' => hcl e.on o' ho' hl) h3
theorem tail_waits {k : Nat} (ht : tailOk ops k = true) {j i : Nat} (hj : j < ops.size) (hk : k ≤ j) (hi : i < j) : waits ops ops.size j i = true := by
 have := List.all_eq_true.1 ht j (List.mem_range.2 hj)
 simp only [Bool.or_eq_true, decide_eq_true_eq] at this
 rcases this with h | h
 ·omega
 ·exact List.all_eq_true.1 h i (List.mem_range.2 hi)
theorem getD_lt {listed : Array Bool} {i : Nat} (h : i < listed.size) (d : Bool) : listed.getD i d = listed.getD i false := by
 simp [Array.getD_eq_getD_getElem?, Array.getElem?_eq_getElem h]
theorem ready_iff {listed : Array Bool} (hsz : listed.size = ops.size) {i : Nat} {o : Oper} (ho : ops[i]? = some o) :
  i ∈ Region.ready .any ops listed ↔ listed.getD i false = false ∧ ∀ e ∈ o.after, Region.binds .any e = true → listed.getD e.on false = true := by
 have hi : i < ops.size := lt_of_some ho
 unfold Region.ready
 rw [List.mem_filter, ho, getD_lt (by omega)]
 simp only [List.mem_range, hi, true_and, Bool.and_eq_true, Bool.not_eq_true', Option.map_some, Option.getD_some]
 rw [Array.all_eq_true_iff_forall_mem]
 refine and_congr Iff.rfl (forall_congr' fun e => forall_congr' fun he => ?_)
 cases Region.binds .any e <;> simp
theorem ready_lt {listed : Array Bool} {i : Nat} (h : i ∈ Region.ready .any ops listed) : i < ops.size := by
 unfold Region.ready at h
 rw [List.mem_filter] at h
 exact List.mem_range.1 h.1
theorem least_ready (ok : Ok ops) {listed : Array Bool} (hsz : listed.size = ops.size) (hr : Region.ready .any ops listed = []) (i : Nat) (hi : i < ops.size) : listed.getD i false = true := by
 induction i using Nat.strongRecOn with
 | ind i ih =>
  cases hl : listed.getD i false with
  | true => rfl
  | false =>
   exfalso
   have ho : ops[i]? = some ops[i] := Array.getElem?_eq_getElem hi
   have hmem := (ready_iff hsz ho).2 ⟨hl, fun e he hbe => by
    have hb := ok.back i _ ho e he hbe
    exact ih e.on hb (by omega)⟩
   rw [hr] at hmem
   cases hmem
theorem set_getD {listed : Array Bool} {i : Nat} (hil : i < listed.size) (j : Nat) : (listed.setIfInBounds i true).getD j false = (listed.getD j false || j == i) := by
 simp only [Array.getD_eq_getD_getElem?, Array.getElem?_setIfInBounds]
 by_cases hij : i = j
 ·subst hij; simp [hil]
 ·simp [hij, Ne.symm hij]
theorem drop_cons {m : Nat} {o : Oper} (ho : ops[m]? = some o) : ops.toList.drop m = o :: ops.toList.drop (m + 1) := by
 have hm : m < ops.toList.length := by simpa using lt_of_some ho
 rw [List.drop_eq_getElem_cons hm]
 congr 1
 have h1 : ops.toList[m]? = some o := by simpa using ho
 rw [List.getElem?_eq_getElem hm] at h1
 exact Option.some.inj h1
theorem any_tail (ok : Ok ops) {k : Nat} (ht : tailOk ops k = true) : ∀ (fuel m : Nat) (listed : Array Bool) (a : Act) (w : World), listed.size = ops.size → (∀ i, i < ops.size → listed.getD i false = decide (i < m)) →
  k ≤ m → m ≤ ops.size → ops.size ≤ fuel + m → wpList P ops Q (ops.toList.drop m) a w → wpAny P .any ops Q fuel listed a w := by
 intro fuel
 induction fuel with
 | zero =>
  intro m listed a w hsz hL hk hm hf h
  obtain rfl : m = ops.size := by omega
  rw [List.drop_eq_nil_of_le (by simp)] at h
  refine ⟨?_, h⟩
  rw [List.eq_nil_iff_forall_not_mem]
  intro i hi
  have hi' := ready_lt hi
  have := ((ready_iff hsz (Array.getElem?_eq_getElem hi')).1 hi).1
  rw [hL i hi'] at this
  simp at this
  omega
 | succ fuel ih =>
  intro m listed a w hsz hL hk hm hf h
  refine ⟨fun hr => ?_, fun i hi => ?_⟩
  ·have hms : m = ops.size := by
    rcases Nat.lt_or_ge m ops.size with h1 | h1
    ·have := least_ready ok hsz hr m h1
     rw [hL m h1] at this
     simp at this
    ·omega
   subst hms
   rw [List.drop_eq_nil_of_le (by simp)] at h
   exact h
  ·have hi' := ready_lt hi
   obtain ⟨h1, h2⟩ := (ready_iff hsz (Array.getElem?_eq_getElem hi')).1 hi
   rw [hL i hi'] at h1
   have hmi : m ≤ i := by simpa using h1
   have him : i = m := by
    rcases Nat.lt_or_ge m i with h3 | h3
    ·exfalso
     have hw := tail_waits ht hi' (by omega) h3
     have hcl : ∀ (j : Nat) (o : Oper), ops[j]? = some o → listed.getD j false = true → ∀ e ∈ o.after, Region.binds .any e = true → listed.getD e.on false = true := fun j o hj hl e he hbe => by
      have hb := ok.back j o hj e he hbe
      have hj' := lt_of_some hj
      rw [hL j hj'] at hl
      rw [hL e.on (by omega)]
      simp at hl ⊢
      omega
     have := waits_listed hcl ops.size i m (fun o ho e he hb => by
      rw [Array.getElem?_eq_getElem hi'] at ho
      cases ho
      exact h2 e he hb) hw
     rw [hL m (by omega)] at this
     simp at this
    ·omega
   subst him
   have ho : ops[i]? = some ops[i] := Array.getElem?_eq_getElem hi'
   rw [drop_cons ho] at h
   have hnext : ∀ a w, wpList P ops Q (ops.toList.drop (i + 1)) a w → wpAny P .any ops Q fuel (listed.setIfInBounds i true) a w := fun a w h' =>
    ih (i + 1) _ a w (by simpa using hsz) (fun j hj => by
     rw [set_getD (by omega), hL j hj, Bool.eq_iff_iff]; simp; omega) (by omega) (by omega) (by omega) h'
   unfold wpOp
   rw [ho]
   simp only
   unfold wpList at h
   split
   ·rename_i hw
    rw [if_pos hw] at h
    exact h.imp (Oper.wp_mono hnext) id
   ·rename_i hw
    rw [if_neg hw] at h
    exact hnext _ _ h
theorem any_det (ok : Ok ops) {k : Nat} (hkn : k ≤ ops.size) (ht : tailOk ops k = true) {val : Nat → Value} {a0 : Act} (hsteps : ∀ i o, i < k → ops[i]? = some o → ∃ x, Fr ops val a0 (fun j => decide (j < i)) x ∧ StepV P ops S x o (val i))
  (hend : ∀ x, Fr ops val a0 (fun j => decide (j < k)) x → ∀ w, S w → wpList P ops Q (ops.toList.drop k) x w) : ∀ (fuel : Nat) (listed : Array Bool) (a : Act) (w : World), listed.size = ops.size →
  cnt (fun i => listed.getD i false) ops.size ≤ fuel → (∀ i o, ops[i]? = some o → listed.getD i false = true → ∀ e ∈ o.after, Region.binds .any e = true → listed.getD e.on false = true) →
  (∀ i, i < ops.size → listed.getD i false = true → i < k) →
  Fr ops val a0 (fun i => listed.getD i false) a → S w → wpAny P .any ops Q fuel listed a w := by
 intro fuel
 induction fuel with
 | zero =>
  intro listed a w hsz hc hcl hlk hf hS
  have hall := cnt_zero _ _ (Nat.le_zero.1 hc)
  have hks : k = ops.size := by
   rcases Nat.lt_or_ge k ops.size with h | h
   ·have := hlk k h (hall k h); omega
   ·omega
  refine any_tail ok ht 0 k listed a w hsz (fun i hi => by rw [hall i hi]; simp; omega) (Nat.le_refl _) hkn (by omega) (hend a (fr_congr hf (fun j hj => ?_) (fun _ _ => rfl)) w hS)
  rw [hall j hj]; simp; omega
 | succ fuel ih =>
  intro listed a w hsz hc hcl hlk hf hS
  by_cases hdone : ∀ i, i < k → listed.getD i false = true
  ·have hL : ∀ i, i < ops.size → listed.getD i false = decide (i < k) := fun i hi => by
    by_cases hik : i < k
    ·rw [hdone i hik]; simp [hik]
    ·have : listed.getD i false ≠ true := fun h => hik (hlk i hi h)
     simp only [Bool.not_eq_true] at this
     rw [this]; simp [hik]
   have hcnt : ops.size ≤ cnt (fun i => listed.getD i false) ops.size + k := by
    have : ∀ n, n ≤ ops.size → n ≤ cnt (fun i => listed.getD i false) n + k := fun n => by
     induction n with
     | zero => intro _; omega
     | succ n ihn =>
      intro hn
      simp only [cnt]
      have := ihn (by omega)
      have hLn := hL n (by omega)
      by_cases hnk : n < k
      ·split <;> omega
      ·rw [if_neg (by rw [hLn]; simp [hnk])]
       omega
    exact this _ (Nat.le_refl _)
   exact any_tail ok ht (fuel + 1) k listed a w hsz hL (Nat.le_refl _) hkn (by omega) (hend a (fr_congr hf (fun j hj => (hL j hj).symm) (fun _ _ => rfl)) w hS)
  refine ⟨fun hr => absurd (fun i hi => least_ready ok hsz hr i (by omega)) hdone, fun i hi => ?_⟩
  have hin : i < ops.size := ready_lt hi
  have hil : i < listed.size := by omega
  obtain ⟨o, ho⟩ : ∃ o, ops[i]? = some o := ⟨_, Array.getElem?_eq_getElem hin⟩
  obtain ⟨hlf, hdeps⟩ := (ready_iff hsz ho).1 hi
  have hik : i < k := by
   rcases Nat.lt_or_ge i k with h | h
   ·exact h
   ·exfalso
    refine hdone fun j hj => ?_
    have hw := tail_waits ht hin h (show j < i by omega)
    exact waits_listed hcl ops.size i j (fun o' ho' e he hb => by
     rw [ho] at ho'
     cases ho'
     exact hdeps e he hb) hw
  have hset : ∀ j, (listed.setIfInBounds i true).getD j false = (listed.getD j false || j == i) := fun j => set_getD hil j
  obtain ⟨x, hfx, hsx⟩ := hsteps i o hik ho
  have hst : StepV P ops S a o (val i) := step_same ok ho hfx hf (fun j oj t hj hd ht => by
   rcases ok.reads i o j oj t ho hj hd ht with ⟨e, he, hb, rfl⟩ | ⟨hne, e, he, hb, hei⟩
   ·rw [hdeps e he hb]
    simpa using ok.back i o ho e he hb
   ·have hlt : i < j := hei ▸ ok.back j oj hj e he hb
    have : listed.getD j false = false := by
     cases hlj : listed.getD j false with
     | false => rfl
     | true =>
      have := hcl j oj hj hlj e he hb
      rw [hei, hlf] at this
      cases this
    rw [this]
    simp; omega) hsx
  have hnext : ∀ w', S w' → wpAny P .any ops Q fuel (listed.setIfInBounds i true) (a.put o.dst (val i)) w' := fun w' hS' => by
   refine ih _ _ _ (by simpa using hsz) ?_ ?_ ?_ ?_ hS'
   ·have := (cnt_set (fun j => listed.getD j false) (fun j => (listed.setIfInBounds i true).getD j false) i hlf hset ops.size).1 hin
    omega
   ·intro j oj hj hlj e he hb
    rw [hset] at hlj ⊢
    rcases Bool.or_eq_true .. ▸ hlj with h | h
    ·rw [hcl j oj hj h e he hb]; rfl
    ·have : j = i := by simpa using h
     subst this
     rw [ho] at hj
     cases hj
     rw [hdeps e he hb]; rfl
   ·intro j hj hlj
    rw [hset] at hlj
    rcases Bool.or_eq_true .. ▸ hlj with h | h
    ·exact hlk j hj h
    ·have : j = i := by simpa using h
     omega
   ·exact fr_put ok ho hf fun j _ => hset j
  unfold wpOp
  rw [ho]
  simp only
  rcases hst with ⟨hw, hrun⟩ | ⟨hw, hv⟩
  ·rw [if_pos hw]
   refine .inl ?_
   have := hrun w hS
   unfold Oper.wp at this ⊢
   exact upon_imp (fun a' w' ⟨ha', hS'⟩ => ha' ▸ hnext w' hS') this
  ·rw [if_neg (by rw [hw]; simp)]
   rw [← hv]
   exact hnext w hS
def SeqW (P : Program) (ops : Array Oper) (S : World → Prop) (d : List Deferred) (R : Array Value → Prop) : List Oper → Array Value → Prop
 | [], t => R t
 | o :: rest, t => ∃ t' : Array Value, (∀ w, S w → wpList P ops (fun e a' w' => e = .normal ∧ a' = { tmps := t', defers := d } ∧ S w') [o] { tmps := t, defers := d } w) ∧ SeqW P ops S d R rest t'
def putVal (dst : Option Tmp) (t : Array Value) : Value := match dst with | none => undef | some d => t.getD d undef
theorem put_putVal {t F : Array Value} {d : List Deferred} {dst : Option Tmp} {u : Value} (h : ({ tmps := t, defers := d } : Act).put dst u = { tmps := F, defers := d }) :
  ({ tmps := F, defers := d } : Act) = ({ tmps := t, defers := d } : Act).put dst (putVal dst F) := by
 cases dst with
 | none => exact h.symm
 | some x =>
  simp only [Act.put, Act.mk.injEq, and_true] at h ⊢
  subst h
  by_cases hd : x < t.size
  ·simp [putVal, Array.getD_eq_getD_getElem?, hd]
  ·have hd' : t.size ≤ x := Nat.le_of_not_lt hd
   rw [Array.setIfInBounds_eq_of_size_le hd', Array.setIfInBounds_eq_of_size_le hd']
theorem putVal_undef {t F : Array Value} {d : List Deferred} {dst : Option Tmp} (h : ({ tmps := t, defers := d } : Act).put dst undef = { tmps := F, defers := d }) : putVal dst F = undef := by
 cases dst with
 | none => rfl
 | some x =>
  simp only [Act.put, Act.mk.injEq, and_true] at h
  subst h
  simp only [putVal, Array.getD_eq_getD_getElem?, Array.getElem?_setIfInBounds]
  by_cases hd : x < t.size
  ·simp [hd]
  ·simp [hd]
theorem upon_some {o : Oper} {t F : Array Value} {d : List Deferred} {r : Result Next} (h : o.upon P { tmps := t, defers := d } (fun a' w' => a' = { tmps := F, defers := d } ∧ S w') NoOut r) :
  ({ tmps := F, defers := d } : Act) = ({ tmps := t, defers := d } : Act).put o.dst (putVal o.dst F) := by
 cases r with
 | ok n w' =>
  cases n <;> simp only [Oper.upon] at h <;>
   first
    | exact put_putVal h.1
    | (obtain ⟨e, w'', fr, he, _⟩ := h []
       cases e <;> first | exact put_putVal he.1 | exact he.elim | exact (noOut_lets he).elim)
    | (obtain ⟨v, w'', hv, _⟩ := h (Frame.enter P 0 #[] .normal) []
       exact put_putVal hv.1)
    | skip
  rename_i x
  exfalso
  have := congrArg (fun a : Act => a.defers.length) h.1
  cases hd : o.dst <;> simp [hd, Act.put] at this
 | halt x w' => cases x <;> simp only [Oper.upon] at h <;> exact h.elim
theorem wpList_one {o : Oper} {t F : Array Value} {d : List Deferred} {w : World} (h : wpList P ops (fun e a' w' => e = .normal ∧ a' = { tmps := F, defers := d } ∧ S w') [o] { tmps := t, defers := d } w) :
  (Region.wanted o (yielded ops t) = true ∧ o.wp P { tmps := t, defers := d } w (fun a' w' => a' = { tmps := F, defers := d } ∧ S w') NoOut) ∨
  (Region.wanted o (yielded ops t) = false ∧ ({ tmps := t, defers := d } : Act).put o.dst undef = { tmps := F, defers := d }) := by
 unfold wpList at h
 split at h
 ·rename_i hw
  refine .inl ⟨hw, ?_⟩
  rcases h with h | h
  ·unfold Oper.wp at h ⊢
   generalize (execOp ({ tmps := t, defers := d } : Act).eval o).run P w = r at *
   cases r with
   | ok n w' =>
    cases n <;> simp only [Oper.upon, wpList] at h ⊢ <;>
     first
      | exact h.2
      | exact Calls.mono h (fun e w'' he => by cases e <;> first | exact he.2 | exact absurd he.1 (by simp) | (obtain ⟨_, _, h1, _⟩ := he; exact absurd h1 (by simp)))
      | exact Rows.mono h (fun _ _ he => he.2)
   | halt x w' => cases x <;> simp only [Oper.upon] at h ⊢ <;> first | exact h.elim | exact absurd h.1 (by simp)
  ·obtain ⟨_, _, _, h1, _⟩ := h
   exact absurd h1 (by simp)
 ·rename_i hw
  simp only [wpList] at h
  exact .inr ⟨by simpa using hw, h.2.1⟩
theorem seqL_of_W {d : List Deferred} {R : Array Value → Prop} {w0 : World} (h0 : S w0) : ∀ (l : List Oper) (t : Array Value), SeqW P ops S d R l t → SeqL P ops S (fun a => ∃ t, a = { tmps := t, defers := d } ∧ R t) l { tmps := t, defers := d }
 | [], t, h => ⟨t, rfl, h⟩
 | o :: rest, t, h => by
  obtain ⟨F, hF, hr⟩ := h
  have hr' := seqL_of_W h0 rest F hr
  have h1 := wpList_one (hF w0 h0)
  cases hw : Region.wanted o (yielded ops t) with
  | true =>
   rw [hw] at h1
   rcases h1 with ⟨_, h1⟩ | ⟨h1, _⟩
   ·have e := upon_some h1
    refine ⟨putVal o.dst F, .inl ⟨hw, fun w hS => ?_⟩, e ▸ hr'⟩
    rcases wpList_one (hF w hS) with ⟨_, h2⟩ | ⟨h2, _⟩
    ·rw [e] at h2; exact h2
    ·rw [hw] at h2; cases h2
   ·cases h1
  | false =>
   rw [hw] at h1
   rcases h1 with ⟨h1, _⟩ | ⟨_, h1⟩
   ·cases h1
   ·exact ⟨undef, .inr ⟨hw, rfl⟩, h1 ▸ hr'⟩
theorem seqL_split : ∀ (l l' : List Oper) (R : Act → Prop) (a : Act), SeqL P ops S (fun x => SeqL P ops S R l' x) l a → SeqL P ops S R (l ++ l') a
 | [], l', R, a, h => h
 | o :: l, l', R, a, h => by
  obtain ⟨v, h1, h2⟩ := h
  exact ⟨v, h1, seqL_split l l' R _ h2⟩
theorem seq_split (ok : Ok ops) {a0 : Act} {R : Act → Prop} : ∀ (l : List Oper) (i : Nat) (val0 : Nat → Value) (a : Act), (∀ j o, l[j]? = some o → ops[i + j]? = some o) → Fr ops val0 a0 (fun j => decide (j < i)) a → SeqL P ops S R l a →
  ∃ val : Nat → Value, (∀ j, j < i → val j = val0 j) ∧ (∀ k o, i ≤ k → k < i + l.length → ops[k]? = some o → ∃ x, Fr ops val a0 (fun j => decide (j < k)) x ∧ StepV P ops S x o (val k)) ∧
   ∃ x, Fr ops val a0 (fun j => decide (j < i + l.length)) x ∧ R x
 | [], i, val0, a, hl, hf, h => ⟨val0, fun _ _ => rfl, fun k o hk ho => absurd ho (by simp; omega), a, hf, h⟩
 | o :: rest, i, val0, a, hl, hf, h => by
  obtain ⟨v, hs, hrest⟩ := h
  have hi : ops[i]? = some o := hl 0 o (by simp)
  let val1 : Nat → Value := fun j => if j = i then v else val0 j
  have hf1 : Fr ops val1 a0 (fun j => decide (j < i)) a := fr_congr hf (fun _ _ => rfl) (fun j hj => by
   have : j < i := by simpa using hj
   show (if j = i then v else val0 j) = _
   rw [if_neg (by omega)])
  have hv1 : val1 i = v := if_pos rfl
  have hf2 : Fr ops val1 a0 (fun j => decide (j < i + 1)) (a.put o.dst v) := by
   rw [← hv1]
   exact fr_put ok hi hf1 fun j _ => by
    rw [Bool.eq_iff_iff]; simp; omega
  obtain ⟨val, hv, hsteps, hend⟩ := seq_split ok rest (i + 1) val1 (a.put o.dst v) (fun j o' hj => by
   have := hl (j + 1) o' (by simpa using hj)
   rw [show i + 1 + j = i + (j + 1) by omega]; exact this) hf2 hrest
  refine ⟨val, fun j hj => ?_, fun k ok' hk hkl hko => ?_, ?_⟩
  ·rw [hv j (by omega)]
   show (if j = i then v else val0 j) = _
   rw [if_neg (by omega)]
  ·by_cases hki : k = i
   ·subst hki
    rw [hi] at hko
    cases hko
    refine ⟨a, fr_congr hf1 (fun _ _ => rfl) (fun j hj => hv j (Nat.lt_succ_of_lt (by simpa using hj))), ?_⟩
    rw [hv k (by omega), hv1]
    exact hs
   ·exact hsteps k ok' (by omega) (by simp only [List.length_cons] at hkl; omega) hko
  ·rw [show i + (o :: rest).length = i + 1 + rest.length by simp only [List.length_cons]; omega]
   exact hend
theorem rep_false (n i : Nat) : (Array.replicate n false).getD i false = false := by
 rw [Array.getD_eq_getD_getElem?, Array.getElem?_replicate]
 split <;> rfl
theorem region_det {id : Nat} {l : List Oper} {t : Array Value} {d : List Deferred} {w : World} (S : World → Prop) (k : Nat) (hm : P.follows .mixedOrders = true) (hok : okOps l.toArray = true) (ht : tailOk l.toArray k = true) (hk : k ≤ l.length) (hS : S w.drew)
  (h : SeqW P l.toArray S d (fun t' => ∀ w', S w' → wpList P l.toArray Q (l.drop k) { tmps := t', defers := d } w') (l.take k) t) : (Code.region id l.toArray true).wp P Q { tmps := t, defers := d } w := by
 have ok := okOps_spec hok
 have hlen : l.toArray.size = l.length := by simp
 refine wp_region_any hm ?_
 obtain ⟨val, _, hsteps, x, hfx, t', rfl, hR⟩ := seq_split ok (l.take k) 0 (fun _ => undef) { tmps := t, defers := d } (fun j o hj => by
  rw [List.getElem?_take] at hj
  split at hj
  ·simpa using hj
  ·cases hj) (fr_start _ _ _ fun i _ => by simp) (seqL_of_W hS _ _ h)
 have hlk : 0 + (l.take k).length = k := by rw [List.length_take]; omega
 rw [hlk] at hsteps hfx
 refine any_det ok (k := k) (by omega) ht (val := val) (fun i o hi ho => hsteps i o (Nat.zero_le _) hi ho) (fun y hy w' hS' => ?_) _ _ _ _ (by simp) ?_ ?_ ?_ ?_ hS
 ·rw [fr_eq hy hfx fun _ _ => rfl]
  exact hR w' hS'
 ·have : ∀ (L : Nat → Bool) n, cnt L n ≤ n := fun L n => by
   induction n with
   | zero => exact Nat.le_refl _
   | succ n ih => simp only [cnt]; split <;> omega
  exact this _ _
 ·intro i o hi hl
  rw [rep_false] at hl
  cases hl
 ·intro i hi hl
  rw [rep_false] at hl
  cases hl
 ·exact fr_start _ _ _ fun i hi => rep_false _ i
def AtEnd (S : World → Prop) (d : List Deferred) (t' : Array Value) : Exit → Act → World → Prop := fun e a' w' => e = .normal ∧ a' = { tmps := t', defers := d } ∧ S w'
theorem AtEnd.mk {d : List Deferred} {t' : Array Value} {w : World} (h : S w) : AtEnd S d t' .normal { tmps := t', defers := d } w := ⟨rfl, rfl, h⟩
theorem seqW_cons {d : List Deferred} {R : Array Value → Prop} {o : Oper} {rest : List Oper} {t t' : Array Value} (h : ∀ w, S w → wpList P ops (AtEnd S d t') [o] { tmps := t, defers := d } w)
  (hr : SeqW P ops S d R rest t') : SeqW P ops S d R (o :: rest) t := ⟨t', h, hr⟩
theorem seqW_nil {d : List Deferred} {R : Array Value → Prop} {t : Array Value} (h : R t) : SeqW P ops S d R [] t := h
theorem region_all {id : Nat} {l : List Oper} {t : Array Value} {d : List Deferred} {w : World} (S : World → Prop) (hm : P.follows .mixedOrders = true) (hok : okOps l.toArray = true) (hS : S w.drew)
  (h : SeqW P l.toArray S d (fun t' => ∀ w', S w' → Q .normal { tmps := t', defers := d } w') l t) : (Code.region id l.toArray true).wp P Q { tmps := t, defers := d } w := by
 have ht : tailOk l.toArray l.length = true := by
  unfold tailOk
  rw [List.all_eq_true]
  intro j hj
  have : j < l.length := by simpa using hj
  simp [this]
 refine region_det S l.length hm hok ht (Nat.le_refl _) hS ?_
 rw [List.take_of_length_le (Nat.le_refl _), List.drop_of_length_le (Nat.le_refl _)]
 exact h
end Go.Det
namespace Go.Proofs.Ytbddfnmhhmkfkaa.Pr
open Go.RowKit Go.Proofs.YtbddfnmhhmkfkaaW.PrintWords Go.Proofs.YtbddfnmhhmkfkaaW.PrintLast Go.Proofs.YtbddfnmhhmkfkaaW.PrintMore
attribute [local go_sem] max2_int min2_int max_two min_two max_three min_three max_four min_four
set_option linter.unusedVariables false
set_option linter.unusedSimpArgs false
def best_flow_hyphen.f (l0_0 : List (S43)) (a0_1 : Int) (l0_2 : List (S85)) (a1 : Int) : Option (Bool) := if a1 ≥ 0 then (if a1 < (l0_0.length : Int) then (if 0 ≤ a1 then (some (((rd_T43 l0_0 a1).f0) == 3)) else (none)) else (some false)) else (some false)
set_option maxHeartbeats 8000000 in
set_option maxRecDepth 100000 in
theorem best_flow_hyphen.calls (A0_0 : Option Addr) (c0_0 : Nat) (l0_0 : List (S43)) (a0_1 : Int) (A0_2 : Option Addr) (c0_2 : Nat) (l0_2 : List (S85)) (a1 : Int) (r : Bool) (w : World) (hr0_0 : Kd.C k43 w A0_0 l0_0.length l0_0) (hc0_0 : l0_0.length ≤ c0_0) (hr0_2 : Kd.C k85 w A0_2 l0_2.length l0_2) (hc0_2 : l0_2.length ≤ c0_2) (h : best_flow_hyphen.f l0_0 a0_1 l0_2 a1 = some r) :
  Calls Try.prog 75 #[.agg #[.slice A0_0 l0_0.length c0_0, .int .i64 a0_1, .slice A0_2 l0_2.length c0_2], .int .i64 a1] w fun e w' => e = .returned (.bool r) ∧ Below w.heap.size w w' := by
 have hu67 := Try.underlying67
 have HR0_0 := Aside0.mk hr0_0
 have HC0_0 := Aside0.mk hc0_0
 clear hr0_0 hc0_0
 have HR0_2 := Aside0.mk hr0_2
 have HC0_2 := Aside0.mk hc0_2
 clear hr0_2 hc0_2
 have HB := Aside0.mk (Below.refl w.heap.size w)
 have H : (if a1 ≥ 0 then (if a1 < (l0_0.length : Int) then (if 0 ≤ a1 then (some (((rd_T43 l0_0 a1).f0) == 3)) else (none)) else (some false)) else (some false)) = some r := h
 clear h
 by_cases c3 : a1 ≥ 0
 ·rw [if_pos c3] at H
  have c3b0 : decide (0 ≤ a1) = true := decide_eq_true c3
  clear c3
  by_cases c4 : a1 < (l0_0.length : Int)
  ·rw [if_pos c4] at H
   have c4b0 : decide (a1 < (l0_0.length : Int)) = true := decide_eq_true c4
   clear c4
   by_cases c5 : 0 ≤ a1
   ·rw [if_pos c5] at H
    have c5b0 : decide (0 ≤ a1) = true := decide_eq_true c5
    clear c5
    obtain rfl := Option.some.inj H
    go_enter Try.func75, Try.ntmps75
    go_wp2_with (first | ((with_reducible refine gate_dst (N := 2) rfl ?_); (try (refine gate_guard (by rfl) ?_; dsimp only)); refine box_event ?hg (N := 2) ?hd (cs := #[.slice A0_0 l0_0.length c0_0, .int .i64 a0_1, .slice A0_2 l0_2.length c0_2]) (t := 67) ?hr ?_; (case hd => rfl); (case hg => rfl); (case hr => first | (go_simp; done) | (go_simp; rfl)); intro gb105 hg w6 hbox hb; have n0_ := Aside0.mk (below_step (by repeat (first | (with_reducible first | exact HB.out | apply below_alloc | apply pw_below_drewN | apply below_drew1) | exact HB.out)) hb); have n1_ := Aside0.mk (hbox); have n2_ := Aside0.mk ((by rw [hg]; exact (below_size (by repeat (first | (with_reducible first | exact HB.out | apply below_alloc | apply pw_below_drewN | apply below_drew1) | exact HB.out))) : w.heap.size ≤ gb105)); have n3_ := Aside0.mk ((by rw [hg]; exact (below_size (by repeat (first | (with_reducible first | exact HB.out | apply below_alloc | apply pw_below_drewN | apply below_drew1) | exact HB.out))) : w.heap.size ≤ gb105)); clear HB; have HB := n0_; have BK105 := n1_; have GW105 := n2_; have GE105 := n3_; clear n0_ n1_ n2_ n3_; clear hb hbox hg; have hcz7_0 : w6.cell? ⟨gb105, 0, none⟩ = some (.slice A0_0 l0_0.length c0_0) := (blk_cell BK105.out 0).trans rfl; have hcz7_1 : w6.cell? ⟨gb105, 1, none⟩ = some (.int .i64 a0_1) := (blk_cell BK105.out 1).trans rfl; have hcz7_2 : w6.cell? ⟨gb105, 2, none⟩ = some (.slice A0_2 l0_2.length c0_2) := (blk_cell BK105.out 2).trans rfl; have hfz7_0 := blk_frozen BK105.out 0; have hfz7_1 := blk_frozen BK105.out 1; have hfz7_2 := blk_frozen BK105.out 2; have p106 : 0 ≤ (a1 : Int) := of_decide_eq_true (by first | (with_reducible assumption) | assumption); have q106 : a1 < (l0_0.length : Int) := of_decide_eq_true (by first | (with_reducible assumption) | assumption); obtain ⟨ad106, e106, hx106_0, hx106_1, hx106_2, hx106_3, hx106_4⟩ := at_T43 HR0_0.out a1 p106 q106; cases e106; replace hx106_0 := (HB.out.cell (World.block_lt_of_cell? w _ hx106_0)).trans hx106_0; replace hx106_1 := (HB.out.cell (World.block_lt_of_cell? w _ hx106_1)).trans hx106_1; replace hx106_2 := (HB.out.cell (World.block_lt_of_cell? w _ hx106_2)).trans hx106_2; replace hx106_3 := (HB.out.cell (World.block_lt_of_cell? w _ hx106_3)).trans hx106_3; replace hx106_4 := (HB.out.cell (World.block_lt_of_cell? w _ hx106_4)).trans hx106_4; replace p106 := eq_true p106; replace q106 := eq_true q106))
    go_ret
    exact ⟨by first | rfl | (simp [errW_none, errW_some] <;> rfl) | (simp [*, errW_none, errW_some] <;> rfl), by repeat (first | (with_reducible first | exact HB.out | apply below_alloc | apply pw_below_drewN | apply below_drew1 | refine below_set ?_ GE105.out) | exact HB.out)⟩
   ·rw [if_neg c5] at H
    exact absurd H (by simp)
  ·rw [if_neg c4] at H
   have c4b0 : decide (a1 < (l0_0.length : Int)) = false := decide_eq_false c4
   clear c4
   obtain rfl := Option.some.inj H
   go_enter Try.func75, Try.ntmps75
   go_wp2_with (first | ((with_reducible refine gate_dst (N := 2) rfl ?_); (try (refine gate_guard (by rfl) ?_; dsimp only)); refine box_event ?hg (N := 2) ?hd (cs := #[.slice A0_0 l0_0.length c0_0, .int .i64 a0_1, .slice A0_2 l0_2.length c0_2]) (t := 67) ?hr ?_; (case hd => rfl); (case hg => rfl); (case hr => first | (go_simp; done) | (go_simp; rfl)); intro gb105 hg w8 hbox hb; have n0_ := Aside0.mk (below_step (by repeat (first | (with_reducible first | exact HB.out | apply below_alloc | apply pw_below_drewN | apply below_drew1) | exact HB.out)) hb); have n1_ := Aside0.mk (hbox); have n2_ := Aside0.mk ((by rw [hg]; exact (below_size (by repeat (first | (with_reducible first | exact HB.out | apply below_alloc | apply pw_below_drewN | apply below_drew1) | exact HB.out))) : w.heap.size ≤ gb105)); have n3_ := Aside0.mk ((by rw [hg]; exact (below_size (by repeat (first | (with_reducible first | exact HB.out | apply below_alloc | apply pw_below_drewN | apply below_drew1) | exact HB.out))) : w.heap.size ≤ gb105)); clear HB; have HB := n0_; have BK105 := n1_; have GW105 := n2_; have GE105 := n3_; clear n0_ n1_ n2_ n3_; clear hb hbox hg; have hcz9_0 : w8.cell? ⟨gb105, 0, none⟩ = some (.slice A0_0 l0_0.length c0_0) := (blk_cell BK105.out 0).trans rfl; have hcz9_1 : w8.cell? ⟨gb105, 1, none⟩ = some (.int .i64 a0_1) := (blk_cell BK105.out 1).trans rfl; have hcz9_2 : w8.cell? ⟨gb105, 2, none⟩ = some (.slice A0_2 l0_2.length c0_2) := (blk_cell BK105.out 2).trans rfl; have hfz9_0 := blk_frozen BK105.out 0; have hfz9_1 := blk_frozen BK105.out 1; have hfz9_2 := blk_frozen BK105.out 2))
   go_ret
   exact ⟨by first | rfl | (simp [errW_none, errW_some] <;> rfl) | (simp [*, errW_none, errW_some] <;> rfl), by repeat (first | (with_reducible first | exact HB.out | apply below_alloc | apply pw_below_drewN | apply below_drew1 | refine below_set ?_ GE105.out) | exact HB.out)⟩
 ·rw [if_neg c3] at H
  have c3b0 : decide (0 ≤ a1) = false := decide_eq_false c3
  clear c3
  obtain rfl := Option.some.inj H
  go_enter Try.func75, Try.ntmps75
  go_wp2_with (first | ((with_reducible refine gate_dst (N := 2) rfl ?_); (try (refine gate_guard (by rfl) ?_; dsimp only)); refine box_event ?hg (N := 2) ?hd (cs := #[.slice A0_0 l0_0.length c0_0, .int .i64 a0_1, .slice A0_2 l0_2.length c0_2]) (t := 67) ?hr ?_; (case hd => rfl); (case hg => rfl); (case hr => first | (go_simp; done) | (go_simp; rfl)); intro gb105 hg w10 hbox hb; have n0_ := Aside0.mk (below_step (by repeat (first | (with_reducible first | exact HB.out | apply below_alloc | apply pw_below_drewN | apply below_drew1) | exact HB.out)) hb); have n1_ := Aside0.mk (hbox); have n2_ := Aside0.mk ((by rw [hg]; exact (below_size (by repeat (first | (with_reducible first | exact HB.out | apply below_alloc | apply pw_below_drewN | apply below_drew1) | exact HB.out))) : w.heap.size ≤ gb105)); have n3_ := Aside0.mk ((by rw [hg]; exact (below_size (by repeat (first | (with_reducible first | exact HB.out | apply below_alloc | apply pw_below_drewN | apply below_drew1) | exact HB.out))) : w.heap.size ≤ gb105)); clear HB; have HB := n0_; have BK105 := n1_; have GW105 := n2_; have GE105 := n3_; clear n0_ n1_ n2_ n3_; clear hb hbox hg))
  go_ret
  exact ⟨by first | rfl | (simp [errW_none, errW_some] <;> rfl) | (simp [*, errW_none, errW_some] <;> rfl), by repeat (first | (with_reducible first | exact HB.out | apply below_alloc | apply pw_below_drewN | apply below_drew1 | refine below_set ?_ GE105.out) | exact HB.out)⟩
end Go.Proofs.Ytbddfnmhhmkfkaa.Pr
namespace Go.Proofs.Ytbddfnmhhmkfkaa.Pr
set_option linter.unusedVariables false
set_option linter.unusedSimpArgs false
open Go.RowKit Go.Proofs.YtbddfnmhhmkfkaaW.PrintWords
attribute [local go_sem] Oper.semAt_some
def farP (n : Int) : Bool := decide (n < 0) || decide (2000 < n)
def oddP (x : S43) : Bool := decide (x.f0 < 1) || decide (4 < x.f0) || farP x.f1 || farP x.f2 || farP x.f3
def item (x : S43) : Value := .agg #[.int .i64 x.f0, .int .i64 x.f1, .int .i64 x.f2, .int .i64 x.f3, .int .i64 x.f4]
theorem far_calls (n : Int) (w : World) : Calls Try.prog 50 #[.int .i64 n] w fun e w' => e = .returned (.bool (farP n)) ∧ w' = w := by
 unfold farP
 go_enter Try.func50, Try.ntmps50
 go_wp2
 all_goals (go_ret; simp [*])
set_option maxHeartbeats 4000000 in
theorem odd_calls (x : S43) (B : Nat) (W : World) (hB : B < W.heap.size) (hc : W.cell? ⟨B, 0, none⟩ = some (.func (.func 50) #[] #[])) :
  Calls Try.prog 51 #[item x, .pointer (some ⟨B, 0, none⟩)] W fun e w' => e = .returned (.bool (oddP x)) ∧ Below W.heap.size W w' := by
 obtain ⟨f0, f1, f2, f3, f4⟩ := x
 have hb0 : Below W.heap.size W (W.alloc (.cells #[.int .i64 f0, .int .i64 f1, .int .i64 f2, .int .i64 f3, .int .i64 f4] 43)) := (Below.refl _ W).alloc (Nat.le_refl _) _
 have hc' : (W.alloc (.cells #[.int .i64 f0, .int .i64 f1, .int .i64 f2, .int .i64 f3, .int .i64 f4] 43)).cell? ⟨B, 0, none⟩ = some (.func (.func 50) #[] #[]) := (hb0.cell (p := ⟨B, 0, none⟩) hB).trans hc
 unfold item oddP
 dsimp only
 by_cases h1 : f0 < 1
 ·go_enter Try.func51, Try.ntmps51
  go_wp2
  go_ret
  exact ⟨by simp [h1], hb0⟩
 ·by_cases h2 : 4 < f0
  ·go_enter Try.func51, Try.ntmps51
   go_wp2
   go_ret
   exact ⟨by simp [h1, h2], hb0⟩
  ·have e1 := fun w => far_calls f1 w
   have e2 := fun w => far_calls f2 w
   have e3 := fun w => far_calls f3 w
   generalize farP f1 = b1 at *
   generalize farP f2 = b2 at *
   generalize farP f3 = b3 at *
   have E1 := Lib.hid e1
   have E2 := Lib.hid e2
   have E3 := Lib.hid e3
   clear e1 e2 e3
   have g1 : decide (f0 < 1) = false := decide_eq_false h1
   have g2 : decide (4 < f0) = false := decide_eq_false h2
   rw [g1, g2]
   have HG := Lib.hid (And.intro g1 g2)
   clear g1 g2
   have g3 : 1 ≤ f0 := by omega
   have g4 : f0 ≤ 4 := by omega
   clear h1 h2
   go_enter Try.func51, Try.ntmps51
   go_wp2_with (go_at_call 50; (first | (with_reducible refine (E1.out _).mono ?_) | (with_reducible refine (E2.out _).mono ?_) | (with_reducible refine (E3.out _).mono ?_)); rintro e w1 ⟨rfl, rfl⟩)
   all_goals
    go_ret
    have e1 := HG.out.1
    have e2 := HG.out.2
    exact ⟨by simp [*], hb0⟩
def idxO : List S43 → Int → Int
 | [], _ => -1
 | x :: xs, i => if oddP x then i else idxO xs (i + 1)
set_option maxHeartbeats 2000000 in
theorem indexItem_calls (B : Nat) (A : Option Addr) (c : Nat) (xs : List S43) (w : World) (hx : xs.length ≤ 140737488351232) (hA : Kd.C k43 w A xs.length xs) (hB : B < w.heap.size) (hc : w.cell? ⟨B, 0, none⟩ = some (.func (.func 50) #[] #[])) :
  Calls Try.prog 76 #[.slice A xs.length c, .func (.func 51) #[] #[.pointer (some ⟨B, 0, none⟩)]] w fun e w' => e = .returned (.int .i64 (idxO xs 0)) ∧ Below w.heap.size w w' := by
 have hcW : ∀ W', Below w.heap.size w W' → W'.cell? ⟨B, 0, none⟩ = some (.func (.func 50) #[] #[]) := fun W' hb => (hb.cell (p := ⟨B, 0, none⟩) hB).trans hc
 obtain ⟨n, hn⟩ : ∃ n, xs.length = n := ⟨_, rfl⟩
 have HA := Lib.hid hA
 have HC := Lib.hid hcW
 have hn1 : n ≤ 140737488351232 := by omega
 rw [hn]
 have HN := Lib.hid hn
 clear hn hA hcW hc hx
 go_enter Try.func76, Try.ntmps76
 go_wp2
 go_loopw [8] (fun v wr => ∃ (k : Nat) (rest : List S43), xs.drop k = rest ∧ Hid (idxO xs 0 = idxO rest k) ∧ v = .int .i64 k ∧ k ≤ n ∧ Below w.heap.size w wr) (fun v _ => n - (intOf v).toNat)
 case atStart => exact ⟨0, xs, rfl, Lib.hid rfl, rfl, by omega, Below.refl _ _⟩
 case round =>
  obtain ⟨k, rest, hr, H, rfl, hk, hB2⟩ := hrel
  by_cases hlt : k < n
  ·have hl2 : (k : Int) < (n : Int) := by omega
   obtain ⟨x, rest, rfl⟩ : ∃ x r, rest = x :: r := by
    cases rest with
    | nil =>
     have := congrArg List.length hr
     simp at this
     have := HN.out
     omega
    | cons x r => exact ⟨x, r, rfl⟩
   have hxk : xs[k]? = some x := by
    have := congrArg (fun l => l[0]?) hr
    simpa using this
   have hr' : xs.drop (k + 1) = rest := by
    have := congrArg List.tail hr
    simpa using this
   have HR := Lib.hid hr'
   obtain ⟨ad, e1, q0, q1, q2, q3, q4⟩ := at_T43 (Kd.C_below HA.out hB2) k (by omega) (by have := HN.out; omega)
   cases e1
   have hxx : rd_T43 xs k = x := by
    unfold rd_T43
    rw [Int.toNat_natCast, List.getD_eq_getElem?_getD, hxk]
    rfl
   rw [hxx] at q0 q1 q2 q3 q4
   simp only [Int.toNat_natCast] at q0 q1 q2 q3 q4
   have hcall := odd_calls x B wr (by have := hB2.size; omega) (HC.out wr hB2)
   have hidx : idxO xs 0 = if oddP x then (k : Int) else idxO rest ((k + 1 : Nat) : Int) := by rw [H.out]; rfl
   have HCL := Lib.hid hcall
   have HI := Lib.hid hidx
   clear hr hr' hxk hcall hidx hxx H
   unfold item at HCL
   generalize oddP x = bb at *
   obtain ⟨f0, f1, f2, f3, f4⟩ := x
   go_wp2_with fail
   refine HCL.out.mono ?_
   rintro e w' ⟨rfl, hb'⟩
   clear q0 q1 q2 q3 q4 HCL
   cases bb
   ·go_wp2
    go_roundw
    case rel => exact ⟨k + 1, rest, HR.out, Lib.hid HI.out, by go_num, by omega, hB2.trans (hb'.mono hB2.size)⟩
    case measure => simp [intOf]; omega
   ·go_wp2
    go_ret
    exact ⟨by rw [HI.out]; rfl, hB2.trans (hb'.mono hB2.size)⟩
  ·have hk2 : ¬ (k : Int) < (n : Int) := by omega
   have hnil : rest = [] := by
    rw [← hr]; apply List.drop_eq_nil_of_le; have := HN.out; omega
   subst hnil
   have hi : idxO xs 0 = -1 := H.out
   have HI := Lib.hid hi
   clear hi hr H
   go_wp2
   go_ret
   exact ⟨by rw [HI.out]; rfl, hB2⟩
theorem idxO_lt (xs : List S43) : ∀ i : Int, 0 ≤ i → (decide (0 ≤ idxO xs i) = xs.any oddP) := by
 induction xs with
 | nil => intro i h; rfl
 | cons x xs ih =>
  intro i h
  by_cases hx : oddP x = true
  ·have e : idxO (x :: xs) i = i := if_pos hx
   rw [e, List.any_cons, hx]
   simp [h]
  ·have e : idxO (x :: xs) i = idxO xs (i + 1) := if_neg hx
   rw [e, ih (i + 1) (by omega), List.any_cons]
   simp only [Bool.not_eq_true] at hx
   rw [hx, Bool.false_or]
set_option maxHeartbeats 1000000 in
theorem hasItem_calls (B : Nat) (A : Option Addr) (c : Nat) (xs : List S43) (w : World) (hx : xs.length ≤ 140737488351232) (hA : Kd.C k43 w A xs.length xs) (hB : B < w.heap.size) (hc : w.cell? ⟨B, 0, none⟩ = some (.func (.func 50) #[] #[])) :
  Calls Try.prog 52 #[.slice A xs.length c, .func (.func 51) #[] #[.pointer (some ⟨B, 0, none⟩)]] w fun e w' => e = .returned (.bool (xs.any oddP)) ∧ Below w.heap.size w w' := by
 have h1 := indexItem_calls B A c xs w hx hA hB hc
 have h2 := idxO_lt xs 0 (Int.le_refl _)
 rw [← h2]
 have H1 := Lib.hid h1
 clear h1 h2 hA hc
 generalize idxO xs 0 = i at *
 go_enter Try.func52, Try.ntmps52
 go_wp2_with fail
 refine H1.out.mono ?_
 rintro e w' ⟨rfl, hb'⟩
 go_wp2
 go_ret
 exact ⟨rfl, hb'⟩
def checkP (l : List S43) (w : Int) : Int := if w < 1 ∨ 1000000 < w ∨ 16384 < l.length ∨ l.any oddP = true then 1 else 0
def best_Check.f (l0 : List S43) (a1 : Int) : Option Int := some (checkP l0 a1)
theorem run_store_func {P : Program} {w : World} {a : Addr} {m : Mode} (f : Fn) (b c : Array Value) : (store a (.func f b c) m).run P w = stored P w a (.func f b c) m := run_store P w a _ m rfl
attribute [local go_sem] run_store_func
set_option maxHeartbeats 2000000 in
theorem best_Check.calls (A0 : Option Addr) (c0 : Nat) (l0 : List S43) (a1 : Int) (r : Int) (w : World) (hr0 : Kd.C k43 w A0 l0.length l0) (hc0 : l0.length ≤ c0) (h : best_Check.f l0 a1 = some r) :
  Calls Try.prog 16 #[.slice A0 l0.length c0, .int .i64 a1] w fun e w' => e = .returned (.int .i64 r) ∧ Below w.heap.size w w' := by
 obtain rfl := Option.some.inj h
 clear h
 have hb0 : Below w.heap.size w (w.alloc (.cells #[.func (.func 50) #[] #[]] 81)) := (Below.refl _ w).alloc (Nat.le_refl _) _
 unfold checkP
 by_cases h1 : a1 < 1
 ·rw [if_pos (.inl h1)]
  go_enter Try.func16, Try.ntmps16
  go_wp2
  go_ret
  exact ⟨rfl, hb0⟩
 ·by_cases h2 : 1000000 < a1
  ·rw [if_pos (.inr (.inl h2))]
   go_enter Try.func16, Try.ntmps16
   go_wp2
   go_ret
   exact ⟨rfl, hb0⟩
  ·by_cases h3 : 16384 < l0.length
   ·rw [if_pos (.inr (.inr (.inl h3)))]
    have h3' : (16384 : Int) < (l0.length : Int) := by omega
    go_enter Try.func16, Try.ntmps16
    go_wp2
    go_ret
    exact ⟨rfl, hb0⟩
   ·have h3' : (l0.length : Int) ≤ 16384 := by omega
    have hcall := hasItem_calls w.heap.size A0 c0 l0 (w.alloc (.cells #[.func (.func 50) #[] #[]] 81)) (by omega) (Kd.C_alloc hr0 _) (by simp) (by rw [blk_cell (blk_new w _) 0]; rfl)
    have e0 : (if a1 < 1 ∨ 1000000 < a1 ∨ 16384 < l0.length ∨ l0.any oddP = true then (1 : Int) else 0) = if l0.any oddP = true then 1 else 0 := by
     by_cases h4 : l0.any oddP = true
     ·rw [if_pos h4, if_pos (.inr (.inr (.inr h4)))]
     ·rw [if_neg h4, if_neg (by rintro (h | h | h | h) <;> first | exact h4 h | omega)]
    rw [e0]
    have HC := Lib.hid hcall
    have g1 : 1 ≤ a1 := by omega
    have g2 : a1 ≤ 1000000 := by omega
    clear hcall e0 h1 h2 h3 hr0 hc0
    generalize l0.any oddP = b at *
    go_enter Try.func16, Try.ntmps16
    go_wp2_with fail
    refine HC.out.mono ?_
    rintro e w' ⟨rfl, hb'⟩
    cases b
    ·go_wp2
     go_ret
     exact ⟨rfl, below_step hb0 hb'⟩
    ·go_wp2
     go_ret
     exact ⟨rfl, below_step hb0 hb'⟩
end Go.Proofs.Ytbddfnmhhmkfkaa.Pr
namespace Go.Proofs.Ytbddfnmhhmkfkaa.Pr
open Go.RowKit Go.Proofs.YtbddfnmhhmkfkaaW.PrintWords Go.Proofs.YtbddfnmhhmkfkaaW.PrintLast Go.Proofs.YtbddfnmhhmkfkaaW.PrintMore
attribute [local go_sem] max2_int min2_int max_two min_two max_three min_three max_four min_four
set_option linter.unusedVariables false
set_option linter.unusedSimpArgs false
def lines_Fill.l0 : Nat → List (S43) → Int → List Int → Int → Option (List Int × Int)
 | 0, _, _, _, _ => none
 | k + 1, x0, x1, x7, x8 => if (x7.length : Int) = 0 then ((lines_end.f k x0 x1 x8).bind fun t435 => (if x7.length < 17592186044416 then ((some (x7 ++ [t435] : List Int)).bind fun y436 => (if 0 ≤ (wrap64 ((y436.length : Int) - 1)) then (if (wrap64 ((y436.length : Int) - 1)) < (y436.length : Int) then (lines_Fill.l0 k x0 x1 y436 (wrap64 ((rd y436 (wrap64 ((y436.length : Int) - 1))) + 1))) else (none)) else (none))) else (none))) else (if 0 ≤ (wrap64 ((x7.length : Int) - 1)) then (if (wrap64 ((x7.length : Int) - 1)) < (x7.length : Int) then (if (rd x7 (wrap64 ((x7.length : Int) - 1))) < (x0.length : Int) then ((lines_end.f k x0 x1 x8).bind fun t441 => (if x7.length < 17592186044416 then ((some (x7 ++ [t441] : List Int)).bind fun y442 => (if 0 ≤ (wrap64 ((y442.length : Int) - 1)) then (if (wrap64 ((y442.length : Int) - 1)) < (y442.length : Int) then (lines_Fill.l0 k x0 x1 y442 (wrap64 ((rd y442 (wrap64 ((y442.length : Int) - 1))) + 1))) else (none)) else (none))) else (none))) else (some (x7, 0))) else (none)) else (none))
def lines_Fill.f (k : Nat) (l0 : List (S43)) (a1 : Int) : Option (List Int × Int) := (best_Check.f l0 a1).bind fun t434 => (if t434 = 0 then (lines_Fill.l0 k l0 a1 ([] : List Int) 0) else (some (([] : List Int), t434)))
theorem lines_Fill.mono_l : ∀ k, (∀ y0 y1 y2 y3, LeO (lines_Fill.l0 k y0 y1 y2 y3) (lines_Fill.l0 (k + 1) y0 y1 y2 y3))
 | 0 => fun _ _ _ _ r h => by simp [lines_Fill.l0] at h
 | k + 1 => by
  have ih0 := lines_Fill.mono_l k
  ·intro y0 y1 y2 y3
   unfold lines_Fill.l0
   repeat' first
   | (with_reducible exact ih0 _ _ _ _)
   | (with_reducible exact lines_end.mono _ _ _ _)
   | (with_reducible exact LeO.refl _)
   | (with_reducible exact LeO.none _)
   | (with_reducible refine LeO.ite ?_ ?_)
   | (with_reducible refine LeO.bind ?_ (fun _ => ?_))
   | exact ih0 _ _ _ _
   | exact lines_end.mono _ _ _ _
   | exact LeO.none _
   | refine LeO.ite ?_ ?_
   | refine LeO.bind ?_ (fun _ => ?_)
theorem lines_Fill.mono : ∀ a0 a1 k, LeO (lines_Fill.f k a0 a1) (lines_Fill.f (k + 1) a0 a1) := by
 intro a0 a1 k
 have ih0 := lines_Fill.mono_l k
 unfold lines_Fill.f
 repeat' first
   | (with_reducible exact ih0 _ _ _ _)
   | (with_reducible exact lines_end.mono _ _ _ _)
   | (with_reducible exact LeO.refl _)
   | (with_reducible exact LeO.none _)
   | (with_reducible refine LeO.ite ?_ ?_)
   | (with_reducible refine LeO.bind ?_ (fun _ => ?_))
   | exact ih0 _ _ _ _
   | exact lines_end.mono _ _ _ _
   | exact LeO.none _
   | refine LeO.ite ?_ ?_
   | refine LeO.bind ?_ (fun _ => ?_)
set_option maxHeartbeats 8000000 in
set_option maxRecDepth 100000 in
theorem lines_Fill.calls (k : Nat) (A0 : Option Addr) (c0 : Nat) (l0 : List (S43)) (a1 : Int) (r1 : List Int) (r2 : Int) (w : World) (hr0 : Kd.C k43 w A0 l0.length l0) (hc0 : l0.length ≤ c0) (h : lines_Fill.f k l0 a1 = some (r1, r2)) :
  Calls Try.prog 33 #[.slice A0 l0.length c0, .int .i64 a1] w fun e w' => ∃ v0_ : Value, e = .returned (.tuple #[v0_, .int .i64 r2]) ∧ Kd.R (Kd.int .i64) 3 w' w.heap.size (fun _ => True) v0_ r1 ∧ Below w.heap.size w w' := by
 have HR0 := Aside0.mk hr0
 have HC0 := Aside0.mk hc0
 clear hr0 hc0
 have HB := Aside0.mk (Below.refl w.heap.size w)
 have H : ((best_Check.f l0 a1).bind fun t434 => (if t434 = 0 then (lines_Fill.l0 k l0 a1 ([] : List Int) 0) else (some (([] : List Int), t434)))) = some (r1, r2) := h
 clear h
 replace H := Option.bind_eq_some_iff.mp H
 obtain ⟨t434, A30, H⟩ := H
 replace H : (if t434 = 0 then (lines_Fill.l0 k l0 a1 ([] : List Int) 0) else (some (([] : List Int), t434))) = some (r1, r2) := H
 have A3 := Aside0.mk A30
 clear A30
 by_cases c4 : t434 = 0
 ·rw [if_pos c4] at H
  have c4b0 : (t434 == 0) = true := beq_iff_eq.mpr c4
  have c4b1 : (t434 != 0) = false := bne_eq_false_iff_eq.mpr c4
  clear c4
  have H' := Aside0.mk H
  clear H
  go_enter Try.func33, Try.ntmps33
  go_wp2_with (first | ((with_reducible refine gate_callee (f := 16) rfl ?_); refine goesL_ (some 11) rfl rfl Try.func16 (by kernel_rfl) rfl #[.slice A0 l0.length c0, .int .i64 a1] rfl (by (try simp only [List.map_toArray, List.map_cons, List.map_nil]); first | done | rfl | (simp only [List.length_drop, List.length_take]; rfl)) ?_; (with_reducible refine (best_Check.calls _ _ l0 a1 t434 _ ?side1 ?side2 A3.out).mono ?_); (case side1 => repeat (first | exact HR0.out | (with_reducible refine Kd.C_alloc ?_ _) | (with_reducible refine Kd.C_drewN ?_ _) | (with_reducible refine Kd.C_drew ?_))); (case side2 => exact HC0.out); rintro e w5 ⟨rfl, hb⟩; refine ⟨_, rfl, ?_⟩; have n0_ := Aside0.mk (below_step (by repeat (first | (with_reducible first | exact HB.out | apply below_alloc | apply pw_below_drewN | apply below_drew1) | exact HB.out)) hb); clear HB; have HB := n0_; clear n0_; (try clear hb); (try clear hb2); (try clear hk); (try clear hi)))
  go_loopg [7, 8] k (fun kq v7 v8 w' => ∃ (x7_1 : List Int) (x8_1 : Int), v8 = .int .i64 x8_1 ∧ Aside0 (lines_Fill.l0 kq l0 a1 x7_1 x8_1 = some (r1, r2)) ∧ Aside0 (kq ≤ k) ∧ Aside0 (Kd.R (Kd.int .i64) 3 w' w.heap.size (fun _ => True) v7 x7_1) ∧ Aside0 (Below w.heap.size w w'))
  case atStart => exact ⟨(([] : List Int)), (0), (by first | rfl | (simp; done) | (simp [*]; done)), H', ⟨Nat.le_refl _⟩, ⟨by first | exact Kd.R_nil _ _ _ _ _ | exact Kd.N_nil _ _ _ _ _ | exact Kd.V_nil _ _ _ _ _ | exact Kd.Q_nil _ _ _ _ _ | exact Kd.S_nil _ _ _ _ _⟩, ⟨by repeat (first | (with_reducible first | exact HB.out | apply below_alloc | apply pw_below_drewN | apply below_drew1) | exact HB.out)⟩⟩
  case round =>
   clear H'
   try clear c1
   try clear p2
   try clear c3
   try clear c4
   try clear c4b0
   try clear c4b1
   obtain ⟨x7_1, x8_1, rfl, HA, HK1, HO_7, HB⟩ := hrel
   cases gk with
   | zero => exact absurd HA.out (by simp [lines_Fill.l0])
   | succ k1 =>
    have H := HA.out
    clear HA
    simp only [lines_Fill.l0] at H
    by_cases c6 : (x7_1.length : Int) = 0
    ·rw [if_pos c6] at H
     have c6b0 : ((x7_1.length : Int) == 0) = true := beq_iff_eq.mpr c6
     have c6b1 : ((x7_1.length : Int) != 0) = false := bne_eq_false_iff_eq.mpr c6
     clear c6
     replace H := Option.bind_eq_some_iff.mp H
     obtain ⟨t435, A70, H⟩ := H
     replace H : (if x7_1.length < 17592186044416 then ((some (x7_1 ++ [t435] : List Int)).bind fun y436 => (if 0 ≤ (wrap64 ((y436.length : Int) - 1)) then (if (wrap64 ((y436.length : Int) - 1)) < (y436.length : Int) then (lines_Fill.l0 k1 l0 a1 y436 (wrap64 ((rd y436 (wrap64 ((y436.length : Int) - 1))) + 1))) else (none)) else (none))) else (none)) = some (r1, r2) := H
     have A7 := Aside0.mk A70
     clear A70
     by_cases c8 : x7_1.length < 17592186044416
     ·rw [if_pos c8] at H
      have LMc8 := Aside0.mk c8
      clear c8
      obtain ⟨y436, hy436⟩ : ∃ y_ : List Int, y_ = (x7_1 ++ [t435]) := ⟨_, rfl⟩
      replace H : (if 0 ≤ (wrap64 ((y436.length : Int) - 1)) then (if (wrap64 ((y436.length : Int) - 1)) < (y436.length : Int) then (lines_Fill.l0 k1 l0 a1 y436 (wrap64 ((rd y436 (wrap64 ((y436.length : Int) - 1))) + 1))) else (none)) else (none)) = some (r1, r2) := by first | (rw [hy436]; with_reducible exact H) | (have H2_ := (Option.bind_some _ _).symm.trans H; rw [hy436]; with_reducible exact H2_) | (have H2_ := (Option.bind_some _ _).symm.trans H; with_reducible exact H2_) | with_reducible exact H | (rw [hy436]; exact H) | exact H
      have Ny436 := Aside0.mk hy436
      clear hy436
      obtain ⟨ji9, hji9⟩ : ∃ j_ : Int, (wrap64 ((y436.length : Int) - 1)) = j_ := ⟨_, rfl⟩
      replace H : (if 0 ≤ (ji9) then (if (ji9) < (y436.length : Int) then (lines_Fill.l0 k1 l0 a1 y436 (wrap64 ((rd y436 (ji9)) + 1))) else (none)) else (none)) = some (r1, r2) := by first | (rw [hji9] at H; exact H) | (simp only [hji9] at H ⊢; exact H)
      (try rw [hji9] at A7)
      have hji9w : (IntKind.i64.wrap ((y436.length : Int) - 1)) = ji9 := (i64_w _).trans hji9
      by_cases c10 : 0 ≤ (ji9)
      ·rw [if_pos c10] at H
       have c10b0 : decide (0 ≤ (ji9)) = true := decide_eq_true c10
       clear c10
       by_cases c11 : (ji9) < (y436.length : Int)
       ·rw [if_pos c11] at H
        have c11b0 : decide ((ji9) < (y436.length : Int)) = true := decide_eq_true c11
        clear c11
        have H' := Aside0.mk H
        clear H
        obtain ⟨Ao12, co12, eo12⟩ := Kd.R_slice HO_7.out
        subst eo12
        go_wp2_with (first | ((with_reducible refine gate_callee (f := 68) rfl ?_); refine goesL_ (some 40) rfl rfl Try.func68 (by kernel_rfl) rfl #[.slice A0 l0.length c0, .int .i64 a1, .int .i64 x8_1] rfl (by (try simp only [List.map_toArray, List.map_cons, List.map_nil]); first | done | rfl | (simp only [List.length_drop, List.length_take]; rfl)) ?_; (with_reducible refine (lines_end.calls k1 _ _ l0 a1 x8_1 t435 _ ?side1 ?side2 A7.out).mono ?_); (case side1 => repeat (first | exact (Kd.C_below HR0.out HB.out) | (with_reducible refine Kd.C_alloc ?_ _) | (with_reducible refine Kd.C_drewN ?_ _) | (with_reducible refine Kd.C_drew ?_))); (case side2 => exact HC0.out); rintro e w13 ⟨rfl, hb⟩; refine ⟨_, rfl, ?_⟩; have n0_ := Aside0.mk (Kd.R_below (by (with_reducible repeat (first | apply Kd.R_alloc | apply Kd.R_drewN | apply Kd.R_drew)); exact HO_7.out) hb); have n1_ := Aside0.mk (below_step (by repeat (first | (with_reducible first | exact HB.out | apply below_alloc | apply pw_below_drewN | apply below_drew1) | exact HB.out)) hb); clear HO_7; clear HB; have HO_7 := n0_; have HB := n1_; clear n0_ n1_; (try clear hb); (try clear hb2); (try clear hk); (try clear hi)) | ((with_reducible refine gate_builtin (b := .append) (xs := #[.tmp 36, .tmp 41]) rfl ?_); (try (refine gate_guard (by rfl) ?_; dsimp only)); at_builtin; refine Kd.R_append (Kd.int .i64) (w0 := w) w.heap.size rfl (.tmp 36) (.tmp 41) 25 3 (.int .i64 0) 8 rfl Try.underlying25 info3 rfl (by decide) (by omega) (.slice Ao12 x7_1.length co12) x7_1 t435 [.int .i64 t435] (fun _ => True) (fun _ => False) rfl rfl ?aP (fun _ hk => hk.elim) ?aF ?aO ?aB ?aS ?aL ?_; (case aP => exact rfl); (case aB => exact (by repeat (first | (with_reducible first | exact HB.out | apply below_alloc | apply pw_below_drewN | apply below_drew1) | exact HB.out))); (case aF => exact (fun _ _ => trivial)); (case aO => exact (by (with_reducible repeat (first | apply Kd.R_alloc | apply Kd.R_drewN | apply Kd.R_drew)); exact HO_7.out)); (case aS => exact (below_size (by repeat (first | (with_reducible first | exact HB.out | apply below_alloc | apply pw_below_drewN | apply below_drew1) | exact HB.out)))); (case aL => have := LMc8.out; omega); intro v437 w14 ho hb hg hat; rw [← Ny436.out] at ho; have n0_ := Aside0.mk (hb); have n1_ := Aside0.mk (ho); clear HB; clear HO_7; have HB := n0_; have HO438 := n1_; clear n0_ n1_; clear ho hb hg hat; obtain ⟨Ao15, co15, eo15⟩ := Kd.R_slice HO438.out; subst eo15; have p439 : 0 ≤ ((ji9) : Int) := of_decide_eq_true (by first | (with_reducible assumption) | assumption); have q439 : (ji9) < (y436.length : Int) := of_decide_eq_true (by first | (with_reducible assumption) | assumption); obtain ⟨ad439, e439, hx439_0⟩ := Kd.at_int (Kd.R_reads' HO438.out).2.2 (ji9) p439 q439; cases e439; replace p439 := eq_true p439; replace q439 := eq_true q439))
        go_roundg k1
        case measure => have := HK1.out; omega
        case rel => exact ⟨(y436), (wrap64 ((rd y436 (ji9)) + 1)), (by first | rfl | (simp; done) | (simp only [← hji9] <;> (first | rfl | simp)) | (simp [*]; done)), H', ⟨by have := HK1.out; omega⟩, ⟨by (with_reducible repeat (first | apply Kd.R_alloc | apply Kd.R_drewN | apply Kd.R_drew)); exact HO438.out⟩, ⟨by repeat (first | (with_reducible first | exact HB.out | apply below_alloc | apply pw_below_drewN | apply below_drew1) | exact HB.out)⟩⟩
       ·rw [if_neg c11] at H
        exact absurd H (by simp)
      ·rw [if_neg c10] at H
       exact absurd H (by simp)
     ·rw [if_neg c8] at H
      exact absurd H (by simp)
    ·rw [if_neg c6] at H
     have c6b0 : ((x7_1.length : Int) == 0) = false := beq_eq_false_iff_ne.mpr c6
     have c6b1 : ((x7_1.length : Int) != 0) = true := bne_iff_ne.mpr c6
     have c6b2 : ¬ (x7_1 = []) := fun h_ => c6 (by rw [h_]; rfl)
     obtain ⟨ji16, hji16⟩ : ∃ j_ : Int, (wrap64 ((x7_1.length : Int) - 1)) = j_ := ⟨_, rfl⟩
     replace H : (if 0 ≤ (ji16) then (if (ji16) < (x7_1.length : Int) then (if (rd x7_1 (ji16)) < (l0.length : Int) then ((lines_end.f k1 l0 a1 x8_1).bind fun t441 => (if x7_1.length < 17592186044416 then ((some (x7_1 ++ [t441] : List Int)).bind fun y442 => (if 0 ≤ (wrap64 ((y442.length : Int) - 1)) then (if (wrap64 ((y442.length : Int) - 1)) < (y442.length : Int) then (lines_Fill.l0 k1 l0 a1 y442 (wrap64 ((rd y442 (wrap64 ((y442.length : Int) - 1))) + 1))) else (none)) else (none))) else (none))) else (some (x7_1, 0))) else (none)) else (none)) = some (r1, r2) := by first | (rw [hji16] at H; exact H) | (simp only [hji16] at H ⊢; exact H)
     have hji16w : (IntKind.i64.wrap ((x7_1.length : Int) - 1)) = ji16 := (i64_w _).trans hji16
     by_cases c17 : 0 ≤ (ji16)
     ·rw [if_pos c17] at H
      have c17b0 : decide (0 ≤ (ji16)) = true := decide_eq_true c17
      clear c17
      by_cases c18 : (ji16) < (x7_1.length : Int)
      ·rw [if_pos c18] at H
       have c18b0 : decide ((ji16) < (x7_1.length : Int)) = true := decide_eq_true c18
       clear c18
       by_cases c19 : (rd x7_1 (ji16)) < (l0.length : Int)
       ·rw [if_pos c19] at H
        have c19b0 : decide ((rd x7_1 (ji16)) < (l0.length : Int)) = true := decide_eq_true c19
        clear c19
        replace H := Option.bind_eq_some_iff.mp H
        obtain ⟨t441, A200, H⟩ := H
        replace H : (if x7_1.length < 17592186044416 then ((some (x7_1 ++ [t441] : List Int)).bind fun y442 => (if 0 ≤ (wrap64 ((y442.length : Int) - 1)) then (if (wrap64 ((y442.length : Int) - 1)) < (y442.length : Int) then (lines_Fill.l0 k1 l0 a1 y442 (wrap64 ((rd y442 (wrap64 ((y442.length : Int) - 1))) + 1))) else (none)) else (none))) else (none)) = some (r1, r2) := H
        have A20 := Aside0.mk A200
        clear A200
        by_cases c21 : x7_1.length < 17592186044416
        ·rw [if_pos c21] at H
         have LMc21 := Aside0.mk c21
         clear c21
         obtain ⟨y442, hy442⟩ : ∃ y_ : List Int, y_ = (x7_1 ++ [t441]) := ⟨_, rfl⟩
         replace H : (if 0 ≤ (wrap64 ((y442.length : Int) - 1)) then (if (wrap64 ((y442.length : Int) - 1)) < (y442.length : Int) then (lines_Fill.l0 k1 l0 a1 y442 (wrap64 ((rd y442 (wrap64 ((y442.length : Int) - 1))) + 1))) else (none)) else (none)) = some (r1, r2) := by first | (rw [hy442]; with_reducible exact H) | (have H2_ := (Option.bind_some _ _).symm.trans H; rw [hy442]; with_reducible exact H2_) | (have H2_ := (Option.bind_some _ _).symm.trans H; with_reducible exact H2_) | with_reducible exact H | (rw [hy442]; exact H) | exact H
         have Ny442 := Aside0.mk hy442
         clear hy442
         obtain ⟨ji22, hji22⟩ : ∃ j_ : Int, (wrap64 ((y442.length : Int) - 1)) = j_ := ⟨_, rfl⟩
         replace H : (if 0 ≤ (ji22) then (if (ji22) < (y442.length : Int) then (lines_Fill.l0 k1 l0 a1 y442 (wrap64 ((rd y442 (ji22)) + 1))) else (none)) else (none)) = some (r1, r2) := by first | (rw [hji22] at H; exact H) | (simp only [hji22] at H ⊢; exact H)
         (try rw [hji22] at A20)
         have hji22w : (IntKind.i64.wrap ((y442.length : Int) - 1)) = ji22 := (i64_w _).trans hji22
         by_cases c23 : 0 ≤ (ji22)
         ·rw [if_pos c23] at H
          have c23b0 : decide (0 ≤ (ji22)) = true := decide_eq_true c23
          clear c23
          by_cases c24 : (ji22) < (y442.length : Int)
          ·rw [if_pos c24] at H
           have c24b0 : decide ((ji22) < (y442.length : Int)) = true := decide_eq_true c24
           clear c24
           have H' := Aside0.mk H
           clear H
           obtain ⟨Ao25, co25, eo25⟩ := Kd.R_slice HO_7.out
           subst eo25
           have p440 : 0 ≤ ((ji16) : Int) := of_decide_eq_true (by first | (with_reducible assumption) | assumption)
           have q440 : (ji16) < (x7_1.length : Int) := of_decide_eq_true (by first | (with_reducible assumption) | assumption)
           obtain ⟨ad440, e440, hx440_0⟩ := Kd.at_int (Kd.R_reads' HO_7.out).2.2 (ji16) p440 q440
           cases e440
           replace p440 := eq_true p440
           replace q440 := eq_true q440
           go_wp2_with (first | ((with_reducible refine gate_callee (f := 68) rfl ?_); refine goesL_ (some 40) rfl rfl Try.func68 (by kernel_rfl) rfl #[.slice A0 l0.length c0, .int .i64 a1, .int .i64 x8_1] rfl (by (try simp only [List.map_toArray, List.map_cons, List.map_nil]); first | done | rfl | (simp only [List.length_drop, List.length_take]; rfl)) ?_; (with_reducible refine (lines_end.calls k1 _ _ l0 a1 x8_1 t441 _ ?side1 ?side2 A20.out).mono ?_); (case side1 => repeat (first | exact (Kd.C_below HR0.out HB.out) | (with_reducible refine Kd.C_alloc ?_ _) | (with_reducible refine Kd.C_drewN ?_ _) | (with_reducible refine Kd.C_drew ?_))); (case side2 => exact HC0.out); rintro e w26 ⟨rfl, hb⟩; refine ⟨_, rfl, ?_⟩; have n0_ := Aside0.mk (Kd.R_below (by (with_reducible repeat (first | apply Kd.R_alloc | apply Kd.R_drewN | apply Kd.R_drew)); exact HO_7.out) hb); have n1_ := Aside0.mk (below_step (by repeat (first | (with_reducible first | exact HB.out | apply below_alloc | apply pw_below_drewN | apply below_drew1) | exact HB.out)) hb); clear HO_7; clear HB; have HO_7 := n0_; have HB := n1_; clear n0_ n1_; (try clear hb); (try clear hb2); (try clear hk); (try clear hi)) | ((with_reducible refine gate_builtin (b := .append) (xs := #[.tmp 36, .tmp 41]) rfl ?_); (try (refine gate_guard (by rfl) ?_; dsimp only)); at_builtin; refine Kd.R_append (Kd.int .i64) (w0 := w) w.heap.size rfl (.tmp 36) (.tmp 41) 25 3 (.int .i64 0) 8 rfl Try.underlying25 info3 rfl (by decide) (by omega) (.slice (some ad440) x7_1.length co25) x7_1 t441 [.int .i64 t441] (fun _ => True) (fun _ => False) rfl rfl ?aP (fun _ hk => hk.elim) ?aF ?aO ?aB ?aS ?aL ?_; (case aP => exact rfl); (case aB => exact (by repeat (first | (with_reducible first | exact HB.out | apply below_alloc | apply pw_below_drewN | apply below_drew1) | exact HB.out))); (case aF => exact (fun _ _ => trivial)); (case aO => exact (by (with_reducible repeat (first | apply Kd.R_alloc | apply Kd.R_drewN | apply Kd.R_drew)); exact HO_7.out)); (case aS => exact (below_size (by repeat (first | (with_reducible first | exact HB.out | apply below_alloc | apply pw_below_drewN | apply below_drew1) | exact HB.out)))); (case aL => have := LMc21.out; omega); intro v443 w27 ho hb hg hat; rw [← Ny442.out] at ho; have n0_ := Aside0.mk (hb); have n1_ := Aside0.mk (ho); clear HB; clear HO_7; have HB := n0_; have HO444 := n1_; clear n0_ n1_; clear ho hb hg hat; obtain ⟨Ao28, co28, eo28⟩ := Kd.R_slice HO444.out; subst eo28; have p445 : 0 ≤ ((ji22) : Int) := of_decide_eq_true (by first | (with_reducible assumption) | assumption); have q445 : (ji22) < (y442.length : Int) := of_decide_eq_true (by first | (with_reducible assumption) | assumption); obtain ⟨ad445, e445, hx445_0⟩ := Kd.at_int (Kd.R_reads' HO444.out).2.2 (ji22) p445 q445; cases e445; replace p445 := eq_true p445; replace q445 := eq_true q445))
           go_roundg k1
           case measure => have := HK1.out; omega
           case rel => exact ⟨(y442), (wrap64 ((rd y442 (ji22)) + 1)), (by first | rfl | (simp; done) | (simp only [← hji22] <;> (first | rfl | simp)) | (simp [*]; done)), H', ⟨by have := HK1.out; omega⟩, ⟨by (with_reducible repeat (first | apply Kd.R_alloc | apply Kd.R_drewN | apply Kd.R_drew)); exact HO444.out⟩, ⟨by repeat (first | (with_reducible first | exact HB.out | apply below_alloc | apply pw_below_drewN | apply below_drew1) | exact HB.out)⟩⟩
          ·rw [if_neg c24] at H
           exact absurd H (by simp)
         ·rw [if_neg c23] at H
          exact absurd H (by simp)
        ·rw [if_neg c21] at H
         exact absurd H (by simp)
       ·rw [if_neg c19] at H
        have c19b0 : decide ((rd x7_1 (ji16)) < (l0.length : Int)) = false := decide_eq_false c19
        clear c19
        simp only [Option.some.injEq, Prod.mk.injEq] at H
        obtain ⟨rfl, rfl⟩ := H
        obtain ⟨Ao29, co29, eo29⟩ := Kd.R_slice HO_7.out
        subst eo29
        have p440 : 0 ≤ ((ji16) : Int) := of_decide_eq_true (by first | (with_reducible assumption) | assumption)
        have q440 : (ji16) < (x7_1.length : Int) := of_decide_eq_true (by first | (with_reducible assumption) | assumption)
        obtain ⟨ad440, e440, hx440_0⟩ := Kd.at_int (Kd.R_reads' HO_7.out).2.2 (ji16) p440 q440
        cases e440
        replace p440 := eq_true p440
        replace q440 := eq_true q440
        go_wp2
        go_ret2
        exact ⟨_, by first | rfl | (simp [errW_none, errW_some] <;> rfl) | (simp only [← hji16]; first | rfl | (simp [errW_none, errW_some] <;> rfl)) | (simp [*, errW_none, errW_some] <;> rfl), by (with_reducible repeat (first | apply Kd.R_alloc | apply Kd.R_drewN | apply Kd.R_drew)); exact HO_7.out, by repeat (first | (with_reducible first | exact HB.out | apply below_alloc | apply pw_below_drewN | apply below_drew1) | exact HB.out)⟩
      ·rw [if_neg c18] at H
       exact absurd H (by simp)
     ·rw [if_neg c17] at H
      exact absurd H (by simp)
 ·rw [if_neg c4] at H
  have c4b0 : (t434 == 0) = false := beq_eq_false_iff_ne.mpr c4
  have c4b1 : (t434 != 0) = true := bne_iff_ne.mpr c4
  simp only [Option.some.injEq, Prod.mk.injEq] at H
  obtain ⟨rfl, rfl⟩ := H
  go_enter Try.func33, Try.ntmps33
  go_wp2_with (first | ((with_reducible refine gate_callee (f := 16) rfl ?_); refine goesL_ (some 11) rfl rfl Try.func16 (by kernel_rfl) rfl #[.slice A0 l0.length c0, .int .i64 a1] rfl (by (try simp only [List.map_toArray, List.map_cons, List.map_nil]); first | done | rfl | (simp only [List.length_drop, List.length_take]; rfl)) ?_; (with_reducible refine (best_Check.calls _ _ l0 a1 t434 _ ?side1 ?side2 A3.out).mono ?_); (case side1 => repeat (first | exact HR0.out | (with_reducible refine Kd.C_alloc ?_ _) | (with_reducible refine Kd.C_drewN ?_ _) | (with_reducible refine Kd.C_drew ?_))); (case side2 => exact HC0.out); rintro e w30 ⟨rfl, hb⟩; refine ⟨_, rfl, ?_⟩; have n0_ := Aside0.mk (below_step (by repeat (first | (with_reducible first | exact HB.out | apply below_alloc | apply pw_below_drewN | apply below_drew1) | exact HB.out)) hb); clear HB; have HB := n0_; clear n0_; (try clear hb); (try clear hb2); (try clear hk); (try clear hi)))
  go_ret2
  exact ⟨_, by first | rfl | (simp [errW_none, errW_some] <;> rfl) | (simp [*, errW_none, errW_some] <;> rfl), by first | exact Kd.R_nil _ _ _ _ _ | exact Kd.N_nil _ _ _ _ _ | exact Kd.V_nil _ _ _ _ _ | exact Kd.Q_nil _ _ _ _ _ | exact Kd.S_nil _ _ _ _ _, by repeat (first | (with_reducible first | exact HB.out | apply below_alloc | apply pw_below_drewN | apply below_drew1) | exact HB.out)⟩
def s20_filled.f (k : Nat) (a0 : Int) (l1 : List Int) : Option (Bool) := (s20_abc.f k).bind fun bt446 => ((lines_Fill.f k bt446.2 a0).bind fun bt452 => (if bt452.2 = 0 then ((s20_same.f k bt452.1 l1).bind fun t456 => (some t456)) else (some false)))
theorem s20_filled.mono : ∀ a0 a1 k, LeO (s20_filled.f k a0 a1) (s20_filled.f (k + 1) a0 a1) := by
 intro a0 a1 k
 unfold s20_filled.f
 repeat' first
   | (with_reducible exact lines_Fill.mono _ _ _)
   | (with_reducible exact s20_abc.mono _)
   | (with_reducible exact s20_same.mono _ _ _)
   | (with_reducible exact LeO.refl _)
   | (with_reducible exact LeO.none _)
   | (with_reducible refine LeO.ite ?_ ?_)
   | (with_reducible refine LeO.bind ?_ (fun _ => ?_))
   | exact lines_Fill.mono _ _ _
   | exact s20_abc.mono _
   | exact s20_same.mono _ _ _
   | exact LeO.none _
   | refine LeO.ite ?_ ?_
   | refine LeO.bind ?_ (fun _ => ?_)
set_option maxHeartbeats 8000000 in
set_option maxRecDepth 100000 in
theorem s20_filled.calls (k : Nat) (a0 : Int) (A1 : Option Addr) (c1 : Nat) (l1 : List Int) (r : Bool) (w : World) (hr1 : Kd.C (Kd.int .i64) w A1 l1.length l1) (hc1 : l1.length ≤ c1) (h : s20_filled.f k a0 l1 = some r) :
  Calls Try.prog 60 #[.int .i64 a0, .slice A1 l1.length c1] w fun e w' => e = .returned (.bool r) ∧ Below w.heap.size w w' := by
 have HR1 := Aside0.mk hr1
 have HC1 := Aside0.mk hc1
 clear hr1 hc1
 have HB := Aside0.mk (Below.refl w.heap.size w)
 have H : ((s20_abc.f k).bind fun bt446 => ((lines_Fill.f k bt446.2 a0).bind fun bt452 => (if bt452.2 = 0 then ((s20_same.f k bt452.1 l1).bind fun t456 => (some t456)) else (some false)))) = some r := h
 clear h
 replace H := Option.bind_eq_some_iff.mp H
 obtain ⟨⟨t446, t447⟩, A30, H⟩ := H
 replace H : ((lines_Fill.f k t447 a0).bind fun bt452 => (if bt452.2 = 0 then ((s20_same.f k bt452.1 l1).bind fun t456 => (some t456)) else (some false))) = some r := H
 have A3 := Aside0.mk A30
 clear A30
 replace H := Option.bind_eq_some_iff.mp H
 obtain ⟨⟨t452, t453⟩, A40, H⟩ := H
 replace H : (if t453 = 0 then ((s20_same.f k t452 l1).bind fun t456 => (some t456)) else (some false)) = some r := H
 have A4 := Aside0.mk A40
 clear A40
 by_cases c5 : t453 = 0
 ·rw [if_pos c5] at H
  have c5b0 : (t453 == 0) = true := beq_iff_eq.mpr c5
  have c5b1 : (t453 != 0) = false := bne_eq_false_iff_eq.mpr c5
  clear c5
  replace H := Option.bind_eq_some_iff.mp H
  obtain ⟨t456, A60, H⟩ := H
  replace H : (some t456) = some r := H
  have A6 := Aside0.mk A60
  clear A60
  obtain rfl := Option.some.inj H
  go_enter Try.func60, Try.ntmps60
  go_wp2_with (first | ((with_reducible refine gate_callee (f := 79) rfl ?_); refine goesL_ (some 10) rfl rfl Try.func79 (by kernel_rfl) rfl #[] rfl (by (try simp only [List.map_toArray, List.map_cons, List.map_nil]); first | done | rfl | (simp only [List.length_drop, List.length_take]; rfl)) ?_; (with_reducible refine (s20_abc.calls k  t446 t447 _ A3.out).mono ?_); rintro e w7 ⟨v448, v450, rfl, ho0, ho1, hb⟩; refine ⟨_, rfl, ?_⟩; have n0_ := Aside0.mk (Kd.R_lower ho0 (below_size (by repeat (first | (with_reducible first | exact HB.out | apply below_alloc | apply pw_below_drewN | apply below_drew1) | exact HB.out)))); have n1_ := Aside0.mk (Kd.R_lower ho1 (below_size (by repeat (first | (with_reducible first | exact HB.out | apply below_alloc | apply pw_below_drewN | apply below_drew1) | exact HB.out)))); have n2_ := Aside0.mk (below_step (by repeat (first | (with_reducible first | exact HB.out | apply below_alloc | apply pw_below_drewN | apply below_drew1) | exact HB.out)) hb); clear HB; have HO449 := n0_; have HO451 := n1_; have HB := n2_; clear n0_ n1_ n2_; (try clear hb); (try clear hb2); (try clear hk); (try clear hi); (try clear ho0); (try clear ho1); obtain ⟨Ao8, co8, eo8⟩ := Kd.R_slice HO451.out; subst eo8) | ((with_reducible refine gate_callee (f := 33) rfl ?_); refine goesL_ (some 16) rfl rfl Try.func33 (by kernel_rfl) rfl #[.slice Ao8 t447.length co8, .int .i64 a0] rfl (by (try simp only [List.map_toArray, List.map_cons, List.map_nil]); first | done | rfl | (simp only [List.length_drop, List.length_take]; rfl)) ?_; (with_reducible refine (lines_Fill.calls k _ _ t447 a0 t452 t453 _ ?side1 ?side2 A4.out).mono ?_); (case side1 => repeat (first | exact (Kd.R_reads' HO451.out).2.2 | (with_reducible refine Kd.C_alloc ?_ _) | (with_reducible refine Kd.C_drewN ?_ _) | (with_reducible refine Kd.C_drew ?_))); (case side2 => exact (Kd.R_reads' HO451.out).2.1); rintro e w9 ⟨v454, rfl, ho0, hb⟩; refine ⟨_, rfl, ?_⟩; have n0_ := Aside0.mk (Kd.R_below (by (with_reducible repeat (first | apply Kd.R_alloc | apply Kd.R_drewN | apply Kd.R_drew)); exact HO449.out) hb); have n1_ := Aside0.mk (Kd.R_below (by (with_reducible repeat (first | apply Kd.R_alloc | apply Kd.R_drewN | apply Kd.R_drew)); exact HO451.out) hb); have n2_ := Aside0.mk (Kd.R_lower ho0 (below_size (by repeat (first | (with_reducible first | exact HB.out | apply below_alloc | apply pw_below_drewN | apply below_drew1) | exact HB.out)))); have n3_ := Aside0.mk (below_step (by repeat (first | (with_reducible first | exact HB.out | apply below_alloc | apply pw_below_drewN | apply below_drew1) | exact HB.out)) hb); clear HO449; clear HO451; clear HB; have HO449 := n0_; have HO451 := n1_; have HO455 := n2_; have HB := n3_; clear n0_ n1_ n2_ n3_; (try clear hb); (try clear hb2); (try clear hk); (try clear hi); (try clear ho0); obtain ⟨Ao10, co10, eo10⟩ := Kd.R_slice HO455.out; subst eo10) | (go_at_call 29; (with_reducible refine (s20_same.calls k _ _ t452 _ _ l1 t456 _ ?side1 ?side2 ?side3 ?side4 A6.out).mono ?_); (case side1 => repeat (first | exact (Kd.R_reads' HO455.out).2.2 | (with_reducible refine Kd.C_alloc ?_ _) | (with_reducible refine Kd.C_drewN ?_ _) | (with_reducible refine Kd.C_drew ?_))); (case side2 => exact (Kd.R_reads' HO455.out).2.1); (case side3 => repeat (first | exact (Kd.C_below HR1.out HB.out) | (with_reducible refine Kd.C_alloc ?_ _) | (with_reducible refine Kd.C_drewN ?_ _) | (with_reducible refine Kd.C_drew ?_))); (case side4 => exact HC1.out); rintro e w' ⟨rfl, ⟨nd, rfl⟩⟩))
  go_ret
  exact ⟨by first | rfl | (simp [errW_none, errW_some] <;> rfl) | (simp [*, errW_none, errW_some] <;> rfl), by repeat (first | (with_reducible first | exact HB.out | apply below_alloc | apply pw_below_drewN | apply below_drew1) | exact HB.out)⟩
 ·rw [if_neg c5] at H
  have c5b0 : (t453 == 0) = false := beq_eq_false_iff_ne.mpr c5
  have c5b1 : (t453 != 0) = true := bne_iff_ne.mpr c5
  obtain rfl := Option.some.inj H
  go_enter Try.func60, Try.ntmps60
  go_wp2_with (first | ((with_reducible refine gate_callee (f := 79) rfl ?_); refine goesL_ (some 10) rfl rfl Try.func79 (by kernel_rfl) rfl #[] rfl (by (try simp only [List.map_toArray, List.map_cons, List.map_nil]); first | done | rfl | (simp only [List.length_drop, List.length_take]; rfl)) ?_; (with_reducible refine (s20_abc.calls k  t446 t447 _ A3.out).mono ?_); rintro e w11 ⟨v448, v450, rfl, ho0, ho1, hb⟩; refine ⟨_, rfl, ?_⟩; have n0_ := Aside0.mk (Kd.R_lower ho0 (below_size (by repeat (first | (with_reducible first | exact HB.out | apply below_alloc | apply pw_below_drewN | apply below_drew1) | exact HB.out)))); have n1_ := Aside0.mk (Kd.R_lower ho1 (below_size (by repeat (first | (with_reducible first | exact HB.out | apply below_alloc | apply pw_below_drewN | apply below_drew1) | exact HB.out)))); have n2_ := Aside0.mk (below_step (by repeat (first | (with_reducible first | exact HB.out | apply below_alloc | apply pw_below_drewN | apply below_drew1) | exact HB.out)) hb); clear HB; have HO449 := n0_; have HO451 := n1_; have HB := n2_; clear n0_ n1_ n2_; (try clear hb); (try clear hb2); (try clear hk); (try clear hi); (try clear ho0); (try clear ho1); obtain ⟨Ao12, co12, eo12⟩ := Kd.R_slice HO451.out; subst eo12) | ((with_reducible refine gate_callee (f := 33) rfl ?_); refine goesL_ (some 16) rfl rfl Try.func33 (by kernel_rfl) rfl #[.slice Ao12 t447.length co12, .int .i64 a0] rfl (by (try simp only [List.map_toArray, List.map_cons, List.map_nil]); first | done | rfl | (simp only [List.length_drop, List.length_take]; rfl)) ?_; (with_reducible refine (lines_Fill.calls k _ _ t447 a0 t452 t453 _ ?side1 ?side2 A4.out).mono ?_); (case side1 => repeat (first | exact (Kd.R_reads' HO451.out).2.2 | (with_reducible refine Kd.C_alloc ?_ _) | (with_reducible refine Kd.C_drewN ?_ _) | (with_reducible refine Kd.C_drew ?_))); (case side2 => exact (Kd.R_reads' HO451.out).2.1); rintro e w13 ⟨v454, rfl, ho0, hb⟩; refine ⟨_, rfl, ?_⟩; have n0_ := Aside0.mk (Kd.R_below (by (with_reducible repeat (first | apply Kd.R_alloc | apply Kd.R_drewN | apply Kd.R_drew)); exact HO449.out) hb); have n1_ := Aside0.mk (Kd.R_below (by (with_reducible repeat (first | apply Kd.R_alloc | apply Kd.R_drewN | apply Kd.R_drew)); exact HO451.out) hb); have n2_ := Aside0.mk (Kd.R_lower ho0 (below_size (by repeat (first | (with_reducible first | exact HB.out | apply below_alloc | apply pw_below_drewN | apply below_drew1) | exact HB.out)))); have n3_ := Aside0.mk (below_step (by repeat (first | (with_reducible first | exact HB.out | apply below_alloc | apply pw_below_drewN | apply below_drew1) | exact HB.out)) hb); clear HO449; clear HO451; clear HB; have HO449 := n0_; have HO451 := n1_; have HO455 := n2_; have HB := n3_; clear n0_ n1_ n2_ n3_; (try clear hb); (try clear hb2); (try clear hk); (try clear hi); (try clear ho0)))
  go_ret
  exact ⟨by first | rfl | (simp [errW_none, errW_some] <;> rfl) | (simp [*, errW_none, errW_some] <;> rfl), by repeat (first | (with_reducible first | exact HB.out | apply below_alloc | apply pw_below_drewN | apply below_drew1) | exact HB.out)⟩
def r19_Place.f (l0 : List (S43)) (a1 : Int) : Option (Bool) := if a1 = (l0.length : Int) then (some true) else (if a1 ≥ 0 then (if a1 < (l0.length : Int) then (if 0 ≤ a1 then (if ((rd_T43 l0 a1).f0) = 2 then (some true) else (some (((rd_T43 l0 a1).f0) == 3))) else (none)) else (some false)) else (some false))
set_option maxHeartbeats 8000000 in
set_option maxRecDepth 100000 in
theorem r19_Place.calls (A0 : Option Addr) (c0 : Nat) (l0 : List (S43)) (a1 : Int) (r : Bool) (w : World) (hr0 : Kd.C k43 w A0 l0.length l0) (hc0 : l0.length ≤ c0) (h : r19_Place.f l0 a1 = some r) :
  Calls Try.prog 40 #[.slice A0 l0.length c0, .int .i64 a1] w fun e w' => e = .returned (.bool r) ∧ Drawn0 w w' := by
 have HR0 := Aside0.mk hr0
 have HC0 := Aside0.mk hc0
 clear hr0 hc0
 have H : (if a1 = (l0.length : Int) then (some true) else (if a1 ≥ 0 then (if a1 < (l0.length : Int) then (if 0 ≤ a1 then (if ((rd_T43 l0 a1).f0) = 2 then (some true) else (some (((rd_T43 l0 a1).f0) == 3))) else (none)) else (some false)) else (some false))) = some r := h
 clear h
 by_cases c3 : a1 = (l0.length : Int)
 ·rw [if_pos c3] at H
  have c3b0 : (a1 == (l0.length : Int)) = true := beq_iff_eq.mpr c3
  have c3b1 : (a1 != (l0.length : Int)) = false := bne_eq_false_iff_eq.mpr c3
  clear c3
  obtain rfl := Option.some.inj H
  go_enter Try.func40, Try.ntmps40
  go_wp2
  go_ret
  exact ⟨by first | rfl | (simp; done) | (simp [*]; done), by repeat (first | exact Drawn0.refl _ | apply Drawn0.step)⟩
 ·rw [if_neg c3] at H
  have c3b0 : (a1 == (l0.length : Int)) = false := beq_eq_false_iff_ne.mpr c3
  have c3b1 : (a1 != (l0.length : Int)) = true := bne_iff_ne.mpr c3
  by_cases c4 : a1 ≥ 0
  ·rw [if_pos c4] at H
   have c4b0 : decide (0 ≤ a1) = true := decide_eq_true c4
   clear c4
   by_cases c5 : a1 < (l0.length : Int)
   ·rw [if_pos c5] at H
    have c5b0 : decide (a1 < (l0.length : Int)) = true := decide_eq_true c5
    clear c5
    by_cases c6 : 0 ≤ a1
    ·rw [if_pos c6] at H
     have c6b0 : decide (0 ≤ a1) = true := decide_eq_true c6
     clear c6
     by_cases c7 : ((rd_T43 l0 a1).f0) = 2
     ·rw [if_pos c7] at H
      have c7b0 : (((rd_T43 l0 a1).f0) == 2) = true := beq_iff_eq.mpr c7
      have c7b1 : (((rd_T43 l0 a1).f0) != 2) = false := bne_eq_false_iff_eq.mpr c7
      clear c7
      obtain rfl := Option.some.inj H
      have p101 : 0 ≤ (a1 : Int) := of_decide_eq_true (by first | (with_reducible assumption) | assumption)
      have q101 : a1 < (l0.length : Int) := of_decide_eq_true (by first | (with_reducible assumption) | assumption)
      obtain ⟨ad101, e101, hx101_0, hx101_1, hx101_2, hx101_3, hx101_4⟩ := at_T43 HR0.out a1 p101 q101
      cases e101
      replace p101 := eq_true p101
      replace q101 := eq_true q101
      go_enter Try.func40, Try.ntmps40
      go_wp2
      go_ret
      exact ⟨by first | rfl | (simp; done) | (simp [*]; done), by repeat (first | exact Drawn0.refl _ | apply Drawn0.step)⟩
     ·rw [if_neg c7] at H
      have c7b0 : (((rd_T43 l0 a1).f0) == 2) = false := beq_eq_false_iff_ne.mpr c7
      have c7b1 : (((rd_T43 l0 a1).f0) != 2) = true := bne_iff_ne.mpr c7
      obtain rfl := Option.some.inj H
      have p101 : 0 ≤ (a1 : Int) := of_decide_eq_true (by first | (with_reducible assumption) | assumption)
      have q101 : a1 < (l0.length : Int) := of_decide_eq_true (by first | (with_reducible assumption) | assumption)
      obtain ⟨ad101, e101, hx101_0, hx101_1, hx101_2, hx101_3, hx101_4⟩ := at_T43 HR0.out a1 p101 q101
      cases e101
      replace p101 := eq_true p101
      replace q101 := eq_true q101
      have p102 : 0 ≤ (a1 : Int) := of_decide_eq_true (by first | (with_reducible assumption) | assumption)
      have q102 : a1 < (l0.length : Int) := of_decide_eq_true (by first | (with_reducible assumption) | assumption)
      obtain ⟨ad102, e102, hx102_0, hx102_1, hx102_2, hx102_3, hx102_4⟩ := at_T43 HR0.out a1 p102 q102
      obtain rfl : ad101 = ad102 := (by injection e102)
      replace p102 := eq_true p102
      replace q102 := eq_true q102
      go_enter Try.func40, Try.ntmps40
      go_wp2
      go_ret
      exact ⟨by first | rfl | (simp; done) | (simp [*]; done), by repeat (first | exact Drawn0.refl _ | apply Drawn0.step)⟩
    ·rw [if_neg c6] at H
     exact absurd H (by simp)
   ·rw [if_neg c5] at H
    have c5b0 : decide (a1 < (l0.length : Int)) = false := decide_eq_false c5
    clear c5
    obtain rfl := Option.some.inj H
    go_enter Try.func40, Try.ntmps40
    go_wp2
    go_ret
    exact ⟨by first | rfl | (simp; done) | (simp [*]; done), by repeat (first | exact Drawn0.refl _ | apply Drawn0.step)⟩
  ·rw [if_neg c4] at H
   have c4b0 : decide (0 ≤ a1) = false := decide_eq_false c4
   clear c4
   obtain rfl := Option.some.inj H
   go_enter Try.func40, Try.ntmps40
   go_wp2
   go_ret
   exact ⟨by first | rfl | (simp; done) | (simp [*]; done), by repeat (first | exact Drawn0.refl _ | apply Drawn0.step)⟩
def best_flow_place.f (l0_0 : List (S43)) (a0_1 : Int) (l0_2 : List (S85)) (a1 : Int) : Option (Bool) := if a1 = (l0_0.length : Int) then (some true) else (if a1 ≥ 0 then (if a1 < (l0_0.length : Int) then ((best_flow_hyphen.f l0_0 a0_1 l0_2 a1).bind fun t108 => (if t108 = true then (some true) else (if 0 ≤ a1 then (some (((rd_T43 l0_0 a1).f0) == 2)) else (none)))) else (some false)) else (some false))
set_option maxHeartbeats 8000000 in
set_option maxRecDepth 100000 in
theorem best_flow_place.calls (A0_0 : Option Addr) (c0_0 : Nat) (l0_0 : List (S43)) (a0_1 : Int) (A0_2 : Option Addr) (c0_2 : Nat) (l0_2 : List (S85)) (a1 : Int) (r : Bool) (w : World) (hr0_0 : Kd.C k43 w A0_0 l0_0.length l0_0) (hc0_0 : l0_0.length ≤ c0_0) (hr0_2 : Kd.C k85 w A0_2 l0_2.length l0_2) (hc0_2 : l0_2.length ≤ c0_2) (h : best_flow_place.f l0_0 a0_1 l0_2 a1 = some r) :
  Calls Try.prog 53 #[.agg #[.slice A0_0 l0_0.length c0_0, .int .i64 a0_1, .slice A0_2 l0_2.length c0_2], .int .i64 a1] w fun e w' => e = .returned (.bool r) ∧ Below w.heap.size w w' := by
 have hu67 := Try.underlying67
 have HR0_0 := Aside0.mk hr0_0
 have HC0_0 := Aside0.mk hc0_0
 clear hr0_0 hc0_0
 have HR0_2 := Aside0.mk hr0_2
 have HC0_2 := Aside0.mk hc0_2
 clear hr0_2 hc0_2
 have HB := Aside0.mk (Below.refl w.heap.size w)
 have H : (if a1 = (l0_0.length : Int) then (some true) else (if a1 ≥ 0 then (if a1 < (l0_0.length : Int) then ((best_flow_hyphen.f l0_0 a0_1 l0_2 a1).bind fun t108 => (if t108 = true then (some true) else (if 0 ≤ a1 then (some (((rd_T43 l0_0 a1).f0) == 2)) else (none)))) else (some false)) else (some false))) = some r := h
 clear h
 by_cases c3 : a1 = (l0_0.length : Int)
 ·rw [if_pos c3] at H
  have c3b0 : (a1 == (l0_0.length : Int)) = true := beq_iff_eq.mpr c3
  have c3b1 : (a1 != (l0_0.length : Int)) = false := bne_eq_false_iff_eq.mpr c3
  clear c3
  obtain rfl := Option.some.inj H
  go_enter Try.func53, Try.ntmps53
  go_wp2_with (first | ((with_reducible refine gate_dst (N := 2) rfl ?_); (try (refine gate_guard (by rfl) ?_; dsimp only)); refine box_event ?hg (N := 2) ?hd (cs := #[.slice A0_0 l0_0.length c0_0, .int .i64 a0_1, .slice A0_2 l0_2.length c0_2]) (t := 67) ?hr ?_; (case hd => rfl); (case hg => rfl); (case hr => first | (go_simp; done) | (go_simp; rfl)); intro gb107 hg w4 hbox hb; have n0_ := Aside0.mk (below_step (by repeat (first | (with_reducible first | exact HB.out | apply below_alloc | apply pw_below_drewN | apply below_drew1) | exact HB.out)) hb); have n1_ := Aside0.mk (hbox); have n2_ := Aside0.mk ((by rw [hg]; exact (below_size (by repeat (first | (with_reducible first | exact HB.out | apply below_alloc | apply pw_below_drewN | apply below_drew1) | exact HB.out))) : w.heap.size ≤ gb107)); have n3_ := Aside0.mk ((by rw [hg]; exact (below_size (by repeat (first | (with_reducible first | exact HB.out | apply below_alloc | apply pw_below_drewN | apply below_drew1) | exact HB.out))) : w.heap.size ≤ gb107)); clear HB; have HB := n0_; have BK107 := n1_; have GW107 := n2_; have GE107 := n3_; clear n0_ n1_ n2_ n3_; clear hb hbox hg; have hcz5_0 : w4.cell? ⟨gb107, 0, none⟩ = some (.slice A0_0 l0_0.length c0_0) := (blk_cell BK107.out 0).trans rfl; have hcz5_1 : w4.cell? ⟨gb107, 1, none⟩ = some (.int .i64 a0_1) := (blk_cell BK107.out 1).trans rfl; have hcz5_2 : w4.cell? ⟨gb107, 2, none⟩ = some (.slice A0_2 l0_2.length c0_2) := (blk_cell BK107.out 2).trans rfl; have hfz5_0 := blk_frozen BK107.out 0; have hfz5_1 := blk_frozen BK107.out 1; have hfz5_2 := blk_frozen BK107.out 2))
  go_ret
  exact ⟨by first | rfl | (simp [errW_none, errW_some] <;> rfl) | (simp [*, errW_none, errW_some] <;> rfl), by repeat (first | (with_reducible first | exact HB.out | apply below_alloc | apply pw_below_drewN | apply below_drew1 | refine below_set ?_ GE107.out) | exact HB.out)⟩
 ·rw [if_neg c3] at H
  have c3b0 : (a1 == (l0_0.length : Int)) = false := beq_eq_false_iff_ne.mpr c3
  have c3b1 : (a1 != (l0_0.length : Int)) = true := bne_iff_ne.mpr c3
  by_cases c6 : a1 ≥ 0
  ·rw [if_pos c6] at H
   have c6b0 : decide (0 ≤ a1) = true := decide_eq_true c6
   clear c6
   by_cases c7 : a1 < (l0_0.length : Int)
   ·rw [if_pos c7] at H
    have c7b0 : decide (a1 < (l0_0.length : Int)) = true := decide_eq_true c7
    clear c7
    replace H := Option.bind_eq_some_iff.mp H
    obtain ⟨t108, A80, H⟩ := H
    replace H : (if t108 = true then (some true) else (if 0 ≤ a1 then (some (((rd_T43 l0_0 a1).f0) == 2)) else (none))) = some r := H
    have A8 := Aside0.mk A80
    clear A80
    by_cases c9 : t108 = true
    ·subst c9
     have H1 : (some true) = some r := by rw [if_pos rfl] at H; exact H
     clear H
     have H := H1
     clear H1
     obtain rfl := Option.some.inj H
     go_enter Try.func53, Try.ntmps53
     go_wp2_with (first | ((with_reducible refine gate_dst (N := 2) rfl ?_); (try (refine gate_guard (by rfl) ?_; dsimp only)); refine box_event ?hg (N := 2) ?hd (cs := #[.slice A0_0 l0_0.length c0_0, .int .i64 a0_1, .slice A0_2 l0_2.length c0_2]) (t := 67) ?hr ?_; (case hd => rfl); (case hg => rfl); (case hr => first | (go_simp; done) | (go_simp; rfl)); intro gb107 hg w10 hbox hb; have n0_ := Aside0.mk (below_step (by repeat (first | (with_reducible first | exact HB.out | apply below_alloc | apply pw_below_drewN | apply below_drew1) | exact HB.out)) hb); have n1_ := Aside0.mk (hbox); have n2_ := Aside0.mk ((by rw [hg]; exact (below_size (by repeat (first | (with_reducible first | exact HB.out | apply below_alloc | apply pw_below_drewN | apply below_drew1) | exact HB.out))) : w.heap.size ≤ gb107)); have n3_ := Aside0.mk ((by rw [hg]; exact (below_size (by repeat (first | (with_reducible first | exact HB.out | apply below_alloc | apply pw_below_drewN | apply below_drew1) | exact HB.out))) : w.heap.size ≤ gb107)); clear HB; have HB := n0_; have BK107 := n1_; have GW107 := n2_; have GE107 := n3_; clear n0_ n1_ n2_ n3_; clear hb hbox hg; have hcz11_0 : w10.cell? ⟨gb107, 0, none⟩ = some (.slice A0_0 l0_0.length c0_0) := (blk_cell BK107.out 0).trans rfl; have hcz11_1 : w10.cell? ⟨gb107, 1, none⟩ = some (.int .i64 a0_1) := (blk_cell BK107.out 1).trans rfl; have hcz11_2 : w10.cell? ⟨gb107, 2, none⟩ = some (.slice A0_2 l0_2.length c0_2) := (blk_cell BK107.out 2).trans rfl; have hfz11_0 := blk_frozen BK107.out 0; have hfz11_1 := blk_frozen BK107.out 1; have hfz11_2 := blk_frozen BK107.out 2) | (go_at_call 75; (with_reducible refine (best_flow_hyphen.calls _ _ l0_0 a0_1 _ _ l0_2 a1 true _ ?side1 ?side2 ?side3 ?side4 A8.out).mono ?_); (case side1 => repeat (first | exact (Kd.C_below HR0_0.out HB.out) | (with_reducible refine Kd.C_alloc ?_ _) | (with_reducible refine Kd.C_drewN ?_ _) | (with_reducible refine Kd.C_drew ?_))); (case side2 => exact HC0_0.out); (case side3 => repeat (first | exact (Kd.C_below HR0_2.out HB.out) | (with_reducible refine Kd.C_alloc ?_ _) | (with_reducible refine Kd.C_drewN ?_ _) | (with_reducible refine Kd.C_drew ?_))); (case side4 => exact HC0_2.out); rintro e w12 ⟨rfl, hb⟩; have n0_ := Aside0.mk (blk_below (g := gb107) (o := .cells #[.slice A0_0 l0_0.length c0_0, .int .i64 a0_1, .slice A0_2 l0_2.length c0_2] 67 (0, 0)) (by (with_reducible repeat (first | refine blk_drewN ?_ _ | refine blk_drew ?_ | refine blk_alloc ?_ _)); exact BK107.out) hb); have n1_ := Aside0.mk (below_step (by repeat (first | (with_reducible first | exact HB.out | apply below_alloc | apply pw_below_drewN | apply below_drew1 | refine below_set ?_ GE107.out) | exact HB.out)) hb); clear BK107; clear HB; have BK107 := n0_; have HB := n1_; clear n0_ n1_; (try clear hb); (try clear hb2); (try clear hk); (try clear hi)))
     go_ret
     exact ⟨by first | rfl | (simp [errW_none, errW_some] <;> rfl) | (simp [*, errW_none, errW_some] <;> rfl), by repeat (first | (with_reducible first | exact HB.out | apply below_alloc | apply pw_below_drewN | apply below_drew1 | refine below_set ?_ GE107.out) | exact HB.out)⟩
    ·replace c9 := Bool.eq_false_iff.mpr c9
     subst c9
     have H1 : (if 0 ≤ a1 then (some (((rd_T43 l0_0 a1).f0) == 2)) else (none)) = some r := by rw [if_neg (show ¬ (false = true) by decide)] at H; exact H
     clear H
     have H := H1
     clear H1
     by_cases c13 : 0 ≤ a1
     ·rw [if_pos c13] at H
      have c13b0 : decide (0 ≤ a1) = true := decide_eq_true c13
      clear c13
      obtain rfl := Option.some.inj H
      go_enter Try.func53, Try.ntmps53
      go_wp2_with (first | ((with_reducible refine gate_dst (N := 2) rfl ?_); (try (refine gate_guard (by rfl) ?_; dsimp only)); refine box_event ?hg (N := 2) ?hd (cs := #[.slice A0_0 l0_0.length c0_0, .int .i64 a0_1, .slice A0_2 l0_2.length c0_2]) (t := 67) ?hr ?_; (case hd => rfl); (case hg => rfl); (case hr => first | (go_simp; done) | (go_simp; rfl)); intro gb107 hg w14 hbox hb; have n0_ := Aside0.mk (below_step (by repeat (first | (with_reducible first | exact HB.out | apply below_alloc | apply pw_below_drewN | apply below_drew1) | exact HB.out)) hb); have n1_ := Aside0.mk (hbox); have n2_ := Aside0.mk ((by rw [hg]; exact (below_size (by repeat (first | (with_reducible first | exact HB.out | apply below_alloc | apply pw_below_drewN | apply below_drew1) | exact HB.out))) : w.heap.size ≤ gb107)); have n3_ := Aside0.mk ((by rw [hg]; exact (below_size (by repeat (first | (with_reducible first | exact HB.out | apply below_alloc | apply pw_below_drewN | apply below_drew1) | exact HB.out))) : w.heap.size ≤ gb107)); clear HB; have HB := n0_; have BK107 := n1_; have GW107 := n2_; have GE107 := n3_; clear n0_ n1_ n2_ n3_; clear hb hbox hg; have hcz15_0 : w14.cell? ⟨gb107, 0, none⟩ = some (.slice A0_0 l0_0.length c0_0) := (blk_cell BK107.out 0).trans rfl; have hcz15_1 : w14.cell? ⟨gb107, 1, none⟩ = some (.int .i64 a0_1) := (blk_cell BK107.out 1).trans rfl; have hcz15_2 : w14.cell? ⟨gb107, 2, none⟩ = some (.slice A0_2 l0_2.length c0_2) := (blk_cell BK107.out 2).trans rfl; have hfz15_0 := blk_frozen BK107.out 0; have hfz15_1 := blk_frozen BK107.out 1; have hfz15_2 := blk_frozen BK107.out 2) | (go_at_call 75; (with_reducible refine (best_flow_hyphen.calls _ _ l0_0 a0_1 _ _ l0_2 a1 false _ ?side1 ?side2 ?side3 ?side4 A8.out).mono ?_); (case side1 => repeat (first | exact (Kd.C_below HR0_0.out HB.out) | (with_reducible refine Kd.C_alloc ?_ _) | (with_reducible refine Kd.C_drewN ?_ _) | (with_reducible refine Kd.C_drew ?_))); (case side2 => exact HC0_0.out); (case side3 => repeat (first | exact (Kd.C_below HR0_2.out HB.out) | (with_reducible refine Kd.C_alloc ?_ _) | (with_reducible refine Kd.C_drewN ?_ _) | (with_reducible refine Kd.C_drew ?_))); (case side4 => exact HC0_2.out); rintro e w16 ⟨rfl, hb⟩; have n0_ := Aside0.mk (blk_below (g := gb107) (o := .cells #[.slice A0_0 l0_0.length c0_0, .int .i64 a0_1, .slice A0_2 l0_2.length c0_2] 67 (0, 0)) (by (with_reducible repeat (first | refine blk_drewN ?_ _ | refine blk_drew ?_ | refine blk_alloc ?_ _)); exact BK107.out) hb); have n1_ := Aside0.mk (below_step (by repeat (first | (with_reducible first | exact HB.out | apply below_alloc | apply pw_below_drewN | apply below_drew1 | refine below_set ?_ GE107.out) | exact HB.out)) hb); clear BK107; clear HB; have BK107 := n0_; have HB := n1_; clear n0_ n1_; (try clear hb); (try clear hb2); (try clear hk); (try clear hi); have hcz17_0 : w16.cell? ⟨gb107, 0, none⟩ = some (.slice A0_0 l0_0.length c0_0) := (blk_cell BK107.out 0).trans rfl; have hcz17_1 : w16.cell? ⟨gb107, 1, none⟩ = some (.int .i64 a0_1) := (blk_cell BK107.out 1).trans rfl; have hcz17_2 : w16.cell? ⟨gb107, 2, none⟩ = some (.slice A0_2 l0_2.length c0_2) := (blk_cell BK107.out 2).trans rfl; have hfz17_0 := blk_frozen BK107.out 0; have hfz17_1 := blk_frozen BK107.out 1; have hfz17_2 := blk_frozen BK107.out 2; have p109 : 0 ≤ (a1 : Int) := of_decide_eq_true (by first | (with_reducible assumption) | assumption); have q109 : a1 < (l0_0.length : Int) := of_decide_eq_true (by first | (with_reducible assumption) | assumption); obtain ⟨ad109, e109, hx109_0, hx109_1, hx109_2, hx109_3, hx109_4⟩ := at_T43 HR0_0.out a1 p109 q109; cases e109; replace hx109_0 := (HB.out.cell (World.block_lt_of_cell? w _ hx109_0)).trans hx109_0; replace hx109_1 := (HB.out.cell (World.block_lt_of_cell? w _ hx109_1)).trans hx109_1; replace hx109_2 := (HB.out.cell (World.block_lt_of_cell? w _ hx109_2)).trans hx109_2; replace hx109_3 := (HB.out.cell (World.block_lt_of_cell? w _ hx109_3)).trans hx109_3; replace hx109_4 := (HB.out.cell (World.block_lt_of_cell? w _ hx109_4)).trans hx109_4; replace p109 := eq_true p109; replace q109 := eq_true q109))
      go_ret
      exact ⟨by first | rfl | (simp [errW_none, errW_some] <;> rfl) | (simp [*, errW_none, errW_some] <;> rfl), by repeat (first | (with_reducible first | exact HB.out | apply below_alloc | apply pw_below_drewN | apply below_drew1 | refine below_set ?_ GE107.out) | exact HB.out)⟩
     ·rw [if_neg c13] at H
      exact absurd H (by simp)
   ·rw [if_neg c7] at H
    have c7b0 : decide (a1 < (l0_0.length : Int)) = false := decide_eq_false c7
    clear c7
    obtain rfl := Option.some.inj H
    go_enter Try.func53, Try.ntmps53
    go_wp2_with (first | ((with_reducible refine gate_dst (N := 2) rfl ?_); (try (refine gate_guard (by rfl) ?_; dsimp only)); refine box_event ?hg (N := 2) ?hd (cs := #[.slice A0_0 l0_0.length c0_0, .int .i64 a0_1, .slice A0_2 l0_2.length c0_2]) (t := 67) ?hr ?_; (case hd => rfl); (case hg => rfl); (case hr => first | (go_simp; done) | (go_simp; rfl)); intro gb107 hg w18 hbox hb; have n0_ := Aside0.mk (below_step (by repeat (first | (with_reducible first | exact HB.out | apply below_alloc | apply pw_below_drewN | apply below_drew1) | exact HB.out)) hb); have n1_ := Aside0.mk (hbox); have n2_ := Aside0.mk ((by rw [hg]; exact (below_size (by repeat (first | (with_reducible first | exact HB.out | apply below_alloc | apply pw_below_drewN | apply below_drew1) | exact HB.out))) : w.heap.size ≤ gb107)); have n3_ := Aside0.mk ((by rw [hg]; exact (below_size (by repeat (first | (with_reducible first | exact HB.out | apply below_alloc | apply pw_below_drewN | apply below_drew1) | exact HB.out))) : w.heap.size ≤ gb107)); clear HB; have HB := n0_; have BK107 := n1_; have GW107 := n2_; have GE107 := n3_; clear n0_ n1_ n2_ n3_; clear hb hbox hg; have hcz19_0 : w18.cell? ⟨gb107, 0, none⟩ = some (.slice A0_0 l0_0.length c0_0) := (blk_cell BK107.out 0).trans rfl; have hcz19_1 : w18.cell? ⟨gb107, 1, none⟩ = some (.int .i64 a0_1) := (blk_cell BK107.out 1).trans rfl; have hcz19_2 : w18.cell? ⟨gb107, 2, none⟩ = some (.slice A0_2 l0_2.length c0_2) := (blk_cell BK107.out 2).trans rfl; have hfz19_0 := blk_frozen BK107.out 0; have hfz19_1 := blk_frozen BK107.out 1; have hfz19_2 := blk_frozen BK107.out 2))
    go_ret
    exact ⟨by first | rfl | (simp [errW_none, errW_some] <;> rfl) | (simp [*, errW_none, errW_some] <;> rfl), by repeat (first | (with_reducible first | exact HB.out | apply below_alloc | apply pw_below_drewN | apply below_drew1 | refine below_set ?_ GE107.out) | exact HB.out)⟩
  ·rw [if_neg c6] at H
   have c6b0 : decide (0 ≤ a1) = false := decide_eq_false c6
   clear c6
   obtain rfl := Option.some.inj H
   go_enter Try.func53, Try.ntmps53
   go_wp2_with (first | ((with_reducible refine gate_dst (N := 2) rfl ?_); (try (refine gate_guard (by rfl) ?_; dsimp only)); refine box_event ?hg (N := 2) ?hd (cs := #[.slice A0_0 l0_0.length c0_0, .int .i64 a0_1, .slice A0_2 l0_2.length c0_2]) (t := 67) ?hr ?_; (case hd => rfl); (case hg => rfl); (case hr => first | (go_simp; done) | (go_simp; rfl)); intro gb107 hg w20 hbox hb; have n0_ := Aside0.mk (below_step (by repeat (first | (with_reducible first | exact HB.out | apply below_alloc | apply pw_below_drewN | apply below_drew1) | exact HB.out)) hb); have n1_ := Aside0.mk (hbox); have n2_ := Aside0.mk ((by rw [hg]; exact (below_size (by repeat (first | (with_reducible first | exact HB.out | apply below_alloc | apply pw_below_drewN | apply below_drew1) | exact HB.out))) : w.heap.size ≤ gb107)); have n3_ := Aside0.mk ((by rw [hg]; exact (below_size (by repeat (first | (with_reducible first | exact HB.out | apply below_alloc | apply pw_below_drewN | apply below_drew1) | exact HB.out))) : w.heap.size ≤ gb107)); clear HB; have HB := n0_; have BK107 := n1_; have GW107 := n2_; have GE107 := n3_; clear n0_ n1_ n2_ n3_; clear hb hbox hg; have hcz21_0 : w20.cell? ⟨gb107, 0, none⟩ = some (.slice A0_0 l0_0.length c0_0) := (blk_cell BK107.out 0).trans rfl; have hcz21_1 : w20.cell? ⟨gb107, 1, none⟩ = some (.int .i64 a0_1) := (blk_cell BK107.out 1).trans rfl; have hcz21_2 : w20.cell? ⟨gb107, 2, none⟩ = some (.slice A0_2 l0_2.length c0_2) := (blk_cell BK107.out 2).trans rfl; have hfz21_0 := blk_frozen BK107.out 0; have hfz21_1 := blk_frozen BK107.out 1; have hfz21_2 := blk_frozen BK107.out 2))
   go_ret
   exact ⟨by first | rfl | (simp [errW_none, errW_some] <;> rfl) | (simp [*, errW_none, errW_some] <;> rfl), by repeat (first | (with_reducible first | exact HB.out | apply below_alloc | apply pw_below_drewN | apply below_drew1 | refine below_set ?_ GE107.out) | exact HB.out)⟩
def best_sums_less.f (a0_0 : Int) (a0_1 : Int) (a0_2 : Int) (a1_0 : Int) (a1_1 : Int) (a1_2 : Int) : Option (Int × Int × Int) := some (wrap64 (a0_0 - a1_0), wrap64 (a0_1 - a1_1), wrap64 (a0_2 - a1_2))
set_option maxHeartbeats 8000000 in
set_option maxRecDepth 100000 in
theorem best_sums_less.calls (a0_0 : Int) (a0_1 : Int) (a0_2 : Int) (a1_0 : Int) (a1_1 : Int) (a1_2 : Int) (r1 : Int) (r2 : Int) (r3 : Int) (w : World) (h : best_sums_less.f a0_0 a0_1 a0_2 a1_0 a1_1 a1_2 = some (r1, r2, r3)) :
  Calls Try.prog 77 #[.agg #[.int .i64 a0_0, .int .i64 a0_1, .int .i64 a0_2], .agg #[.int .i64 a1_0, .int .i64 a1_1, .int .i64 a1_2]] w fun e w' => e = .returned (.agg #[.int .i64 r1, .int .i64 r2, .int .i64 r3]) ∧ Below w.heap.size w w' := by
 have hu85 := Try.underlying85
 have HB := Aside0.mk (Below.refl w.heap.size w)
 have H : (some (wrap64 (a0_0 - a1_0), wrap64 (a0_1 - a1_1), wrap64 (a0_2 - a1_2))) = some (r1, r2, r3) := h
 clear h
 simp only [Option.some.injEq, Prod.mk.injEq] at H
 obtain ⟨rfl, rfl, rfl⟩ := H
 go_enter Try.func77, Try.ntmps77
 go_wp2_with (first | ((with_reducible refine gate_dst (N := 2) rfl ?_); refine box_event ?hg (N := 2) ?hd (cs := #[.int .i64 a0_0, .int .i64 a0_1, .int .i64 a0_2]) (t := 85) ?hr ?_; (case hd => rfl); (case hg => rfl); (case hr => first | (go_simp; done) | (go_simp; rfl)); intro gb110 hg w3 hbox hb; have n0_ := Aside0.mk (below_step (by repeat (first | (with_reducible first | exact HB.out | apply below_alloc | apply pw_below_drewN | apply below_drew1) | exact HB.out)) hb); have n1_ := Aside0.mk (hbox); have n2_ := Aside0.mk ((by rw [hg]; exact (below_size (by repeat (first | (with_reducible first | exact HB.out | apply below_alloc | apply pw_below_drewN | apply below_drew1) | exact HB.out))) : w.heap.size ≤ gb110)); have n3_ := Aside0.mk ((by rw [hg]; exact (below_size (by repeat (first | (with_reducible first | exact HB.out | apply below_alloc | apply pw_below_drewN | apply below_drew1) | exact HB.out))) : w.heap.size ≤ gb110)); clear HB; have HB := n0_; have BK110 := n1_; have GW110 := n2_; have GE110 := n3_; clear n0_ n1_ n2_ n3_; clear hb hbox hg) | ((with_reducible refine gate_dst (N := 3) rfl ?_); refine box_event ?hg (N := 3) ?hd (cs := #[.int .i64 a1_0, .int .i64 a1_1, .int .i64 a1_2]) (t := 85) ?hr ?_; (case hd => rfl); (case hg => rfl); (case hr => first | (go_simp; done) | (go_simp; rfl)); intro gb111 hg w4 hbox hb; have n0_ := Aside0.mk (blk_below (g := gb110) (o := .cells #[.int .i64 a0_0, .int .i64 a0_1, .int .i64 a0_2] 85 (0, 0)) (by (with_reducible repeat (first | refine blk_drewN ?_ _ | refine blk_drew ?_ | refine blk_alloc ?_ _)); exact BK110.out) hb); have n1_ := Aside0.mk (below_step (by repeat (first | (with_reducible first | exact HB.out | apply below_alloc | apply pw_below_drewN | apply below_drew1 | refine below_set ?_ GE110.out) | exact HB.out)) hb); have n2_ := Aside0.mk (hbox); have n3_ := Aside0.mk ((by rw [hg]; exact (below_size (by repeat (first | (with_reducible first | exact HB.out | apply below_alloc | apply pw_below_drewN | apply below_drew1 | refine below_set ?_ GE110.out) | exact HB.out))) : w.heap.size ≤ gb111)); have n4_ := Aside0.mk ((by rw [hg]; exact (below_size (by repeat (first | (with_reducible first | exact HB.out | apply below_alloc | apply pw_below_drewN | apply below_drew1 | refine below_set ?_ GE110.out) | exact HB.out))) : w.heap.size ≤ gb111)); have n5_ := Aside0.mk ((by rw [hg]; exact Nat.ne_of_lt (blk_lt (g := gb110) (o := .cells #[.int .i64 a0_0, .int .i64 a0_1, .int .i64 a0_2] 85 (0, 0)) (by (with_reducible repeat (first | refine blk_drewN ?_ _ | refine blk_drew ?_ | refine blk_alloc ?_ _)); exact BK110.out)) : gb110 ≠ gb111)); have n6_ := Aside0.mk ((by rw [hg]; exact Nat.ne_of_gt (blk_lt (g := gb110) (o := .cells #[.int .i64 a0_0, .int .i64 a0_1, .int .i64 a0_2] 85 (0, 0)) (by (with_reducible repeat (first | refine blk_drewN ?_ _ | refine blk_drew ?_ | refine blk_alloc ?_ _)); exact BK110.out)) : gb111 ≠ gb110)); clear BK110; clear HB; have BK110 := n0_; have HB := n1_; have BK111 := n2_; have GW111 := n3_; have GE111 := n4_; have NB110_111 := n5_; have NB111_110 := n6_; clear n0_ n1_ n2_ n3_ n4_ n5_ n6_; clear hb hbox hg) | ((with_reducible refine gate_dst (N := 4) rfl ?_); refine box_event ?hg (N := 4) ?hd (cs := #[.int .i64 0, .int .i64 0, .int .i64 0]) (t := 85) ?hr ?_; (case hd => rfl); (case hg => rfl); (case hr => first | (go_simp; done) | (go_simp; rfl)); intro gb112 hg w5 hbox hb; have n0_ := Aside0.mk (blk_below (g := gb110) (o := .cells #[.int .i64 a0_0, .int .i64 a0_1, .int .i64 a0_2] 85 (0, 0)) (by (with_reducible repeat (first | refine blk_drewN ?_ _ | refine blk_drew ?_ | refine blk_alloc ?_ _)); exact BK110.out) hb); have n1_ := Aside0.mk (blk_below (g := gb111) (o := .cells #[.int .i64 a1_0, .int .i64 a1_1, .int .i64 a1_2] 85 (0, 0)) (by (with_reducible repeat (first | refine blk_drewN ?_ _ | refine blk_drew ?_ | refine blk_alloc ?_ _)); exact BK111.out) hb); have n2_ := Aside0.mk (below_step (by repeat (first | (with_reducible first | exact HB.out | apply below_alloc | apply pw_below_drewN | apply below_drew1 | refine below_set ?_ GE110.out | refine below_set ?_ GE111.out) | exact HB.out)) hb); have n3_ := Aside0.mk (hbox); have n4_ := Aside0.mk ((by rw [hg]; exact (below_size (by repeat (first | (with_reducible first | exact HB.out | apply below_alloc | apply pw_below_drewN | apply below_drew1 | refine below_set ?_ GE110.out | refine below_set ?_ GE111.out) | exact HB.out))) : w.heap.size ≤ gb112)); have n5_ := Aside0.mk ((by rw [hg]; exact (below_size (by repeat (first | (with_reducible first | exact HB.out | apply below_alloc | apply pw_below_drewN | apply below_drew1 | refine below_set ?_ GE110.out | refine below_set ?_ GE111.out) | exact HB.out))) : w.heap.size ≤ gb112)); have n6_ := Aside0.mk ((by rw [hg]; exact Nat.ne_of_lt (blk_lt (g := gb110) (o := .cells #[.int .i64 a0_0, .int .i64 a0_1, .int .i64 a0_2] 85 (0, 0)) (by (with_reducible repeat (first | refine blk_drewN ?_ _ | refine blk_drew ?_ | refine blk_alloc ?_ _)); exact BK110.out)) : gb110 ≠ gb112)); have n7_ := Aside0.mk ((by rw [hg]; exact Nat.ne_of_gt (blk_lt (g := gb110) (o := .cells #[.int .i64 a0_0, .int .i64 a0_1, .int .i64 a0_2] 85 (0, 0)) (by (with_reducible repeat (first | refine blk_drewN ?_ _ | refine blk_drew ?_ | refine blk_alloc ?_ _)); exact BK110.out)) : gb112 ≠ gb110)); have n8_ := Aside0.mk ((by rw [hg]; exact Nat.ne_of_lt (blk_lt (g := gb111) (o := .cells #[.int .i64 a1_0, .int .i64 a1_1, .int .i64 a1_2] 85 (0, 0)) (by (with_reducible repeat (first | refine blk_drewN ?_ _ | refine blk_drew ?_ | refine blk_alloc ?_ _)); exact BK111.out)) : gb111 ≠ gb112)); have n9_ := Aside0.mk ((by rw [hg]; exact Nat.ne_of_gt (blk_lt (g := gb111) (o := .cells #[.int .i64 a1_0, .int .i64 a1_1, .int .i64 a1_2] 85 (0, 0)) (by (with_reducible repeat (first | refine blk_drewN ?_ _ | refine blk_drew ?_ | refine blk_alloc ?_ _)); exact BK111.out)) : gb112 ≠ gb111)); clear BK110; clear BK111; clear HB; have BK110 := n0_; have BK111 := n1_; have HB := n2_; have BK112 := n3_; have GW112 := n4_; have GE112 := n5_; have NB110_112 := n6_; have NB112_110 := n7_; have NB111_112 := n8_; have NB112_111 := n9_; clear n0_ n1_ n2_ n3_ n4_ n5_ n6_ n7_ n8_ n9_; clear hb hbox hg; have hnb6 := NB110_111.out; have hnc6 := NB111_110.out; have hnb7 := NB110_112.out; have hnc7 := NB112_110.out; have hcz8_0 : w5.cell? ⟨gb110, 0, none⟩ = some (.int .i64 a0_0) := (blk_cell BK110.out 0).trans rfl; have hcz8_1 : w5.cell? ⟨gb110, 1, none⟩ = some (.int .i64 a0_1) := (blk_cell BK110.out 1).trans rfl; have hcz8_2 : w5.cell? ⟨gb110, 2, none⟩ = some (.int .i64 a0_2) := (blk_cell BK110.out 2).trans rfl; have hfz8_0 := blk_frozen BK110.out 0; have hfz8_1 := blk_frozen BK110.out 1; have hfz8_2 := blk_frozen BK110.out 2; have hnb9 := NB111_112.out; have hnc9 := NB112_111.out; have hcz10_0 : w5.cell? ⟨gb111, 0, none⟩ = some (.int .i64 a1_0) := (blk_cell BK111.out 0).trans rfl; have hcz10_1 : w5.cell? ⟨gb111, 1, none⟩ = some (.int .i64 a1_1) := (blk_cell BK111.out 1).trans rfl; have hcz10_2 : w5.cell? ⟨gb111, 2, none⟩ = some (.int .i64 a1_2) := (blk_cell BK111.out 2).trans rfl; have hfz10_0 := blk_frozen BK111.out 0; have hfz10_1 := blk_frozen BK111.out 1; have hfz10_2 := blk_frozen BK111.out 2; have hcz11_0 : w5.cell? ⟨gb112, 0, none⟩ = some (.int .i64 0) := (blk_cell BK112.out 0).trans rfl; have hcz11_1 : w5.cell? ⟨gb112, 1, none⟩ = some (.int .i64 0) := (blk_cell BK112.out 1).trans rfl; have hcz11_2 : w5.cell? ⟨gb112, 2, none⟩ = some (.int .i64 0) := (blk_cell BK112.out 2).trans rfl; have hfz11_0 := blk_frozen BK112.out 0; have hfz11_1 := blk_frozen BK112.out 1; have hfz11_2 := blk_frozen BK112.out 2))
 refine bodyPost_ret (results_cell_row rfl _ _ gb112 85 #[.int .i64 (wrap64 (a0_0 - a1_0)), .int .i64 (wrap64 (a0_1 - a1_1)), .int .i64 (wrap64 (a0_2 - a1_2))] (0, 0) _ rfl (by (with_reducible repeat (first | refine blk_drewN ?_ _ | refine blk_drew ?_ | refine blk_alloc ?_ _)); refine blk_put (cs := #[.int .i64 (wrap64 (a0_0 - a1_0)), .int .i64 (wrap64 (a0_1 - a1_1)), .int .i64 0]) ?_ 2 _ rfl; (with_reducible repeat (first | refine blk_drewN ?_ _ | refine blk_drew ?_ | refine blk_alloc ?_ _)); refine blk_put (cs := #[.int .i64 (wrap64 (a0_0 - a1_0)), .int .i64 0, .int .i64 0]) ?_ 1 _ rfl; (with_reducible repeat (first | refine blk_drewN ?_ _ | refine blk_drew ?_ | refine blk_alloc ?_ _)); refine blk_put (cs := #[.int .i64 0, .int .i64 0, .int .i64 0]) ?_ 0 _ rfl; (with_reducible repeat (first | refine blk_drewN ?_ _ | refine blk_drew ?_ | refine blk_alloc ?_ _)); exact BK112.out) Try.underlying85 rfl (by kernel_rfl)) rfl ?_
 exact ⟨by first | rfl | (simp [errW_none, errW_some] <;> rfl) | (simp [*, errW_none, errW_some] <;> rfl), by repeat (first | (with_reducible first | exact HB.out | apply below_alloc | apply pw_below_drewN | apply below_drew1 | refine below_set ?_ GE110.out | refine below_set ?_ GE111.out | refine below_set ?_ GE112.out) | exact HB.out)⟩
end Go.Proofs.Ytbddfnmhhmkfkaa.Pr
