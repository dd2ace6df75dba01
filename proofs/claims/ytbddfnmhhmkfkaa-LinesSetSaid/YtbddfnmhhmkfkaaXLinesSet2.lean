/- Texts of this seat, one behind the other. -/
import Derived.Test.YtbddfnmhhmkfkaaProg
import Derived.Below
import Derived.Deep.Draws
import Derived.Deep.AppendLies
import Derived.Maps.AppendAt
import Derived.OwnWalk
import Derived.Laws.BytesArg
import Derived.Laws.MakeOwn
import Derived.Laws.OwnMore
import Derived.Deep.OwnRows
import Derived.Tactics
import Derived.Lib.ConvBytes
import Derived.Laws.Slices
import Derived.WalkKit
import Derived.KernelRfl
import Derived.RowKit3
import Derived.Deep.LoopGhost
import Derived.Deep.QuietTactic
import Derived.BigQuiet
import Derived.WideLaws
import Derived.Deep.DeepCutAuto
import Derived.Deep.CutBlock
import Derived.Deep.RegionHeld3
import Derived.Laws.Rows
import Derived.Lib.AppendStr
import Derived.ArgAppend
import Derived.Laws.IdiomCopy
import Derived.OrdersHeld
import Derived.Laws.BitsLemmas
import Derived.RowKit
import Derived.Deep.Slices
import Derived.Deep.Fields
import Derived.ChangeSame
import Derived.SizedLaws
import Derived.ChangeSlices
import Derived.Orders
import Derived.Deep.RegionHeld
import Derived.Lib.Hide
import Derived.Test.YtbddfnmhhmkfkaaXLinesSet1
set_option linter.unusedVariables false
set_option linter.unusedSimpArgs false
namespace Go.Proofs.YtbddfnmhhmkfkaaW.PrintWords
theorem Reps.front {α : Type} {R : α → List Value → Prop} {size : Nat} {ps : List α} {cs c all : List Value} {p : α} (hp : R p c) (hc : c.length = size) (h : Reps R size ps cs) (ha : c ++ cs = all) : Reps R size (p :: ps) all := by
 subst ha
 refine ⟨by rw [List.length_append, hc, h.1, List.length_cons, Nat.succ_mul, Nat.add_comm], fun j q hq => ?_⟩
 cases j with
 | zero =>
  simp only [List.getElem?_cons_zero, Option.some.injEq] at hq
  subst hq
  rw [Nat.zero_mul, List.drop_zero, List.take_append_of_le_length (by omega), List.take_of_length_le (by omega)]
  exact hp
 | succ j =>
  simp only [List.getElem?_cons_succ] at hq
  have h1 := h.2 j q hq
  rw [Nat.succ_mul, List.drop_append, List.drop_of_length_le (by rw [hc]; exact Nat.le_add_left _ _), List.nil_append, hc, Nat.add_sub_cancel]
  exact h1
theorem Reps.c2 {α : Type} {R : α → List Value → Prop} {ps : List α} {cs : List Value} {p : α} {va vb : Value} (hp : R p [va, vb]) (h : Reps R 2 ps cs) : Reps R 2 (p :: ps) (va :: vb :: cs) := Reps.front hp rfl h rfl
theorem Reps.c3 {α : Type} {R : α → List Value → Prop} {ps : List α} {cs : List Value} {p : α} {va vb vc : Value} (hp : R p [va, vb, vc]) (h : Reps R 3 ps cs) : Reps R 3 (p :: ps) (va :: vb :: vc :: cs) := Reps.front hp rfl h rfl
theorem Reps.c4 {α : Type} {R : α → List Value → Prop} {ps : List α} {cs : List Value} {p : α} {va vb vc vd : Value} (hp : R p [va, vb, vc, vd]) (h : Reps R 4 ps cs) : Reps R 4 (p :: ps) (va :: vb :: vc :: vd :: cs) := Reps.front hp rfl h rfl
theorem Reps.c5 {α : Type} {R : α → List Value → Prop} {ps : List α} {cs : List Value} {p : α} {va vb vc vd ve : Value} (hp : R p [va, vb, vc, vd, ve]) (h : Reps R 5 ps cs) : Reps R 5 (p :: ps) (va :: vb :: vc :: vd :: ve :: cs) := Reps.front hp rfl h rfl
theorem Reps.c6 {α : Type} {R : α → List Value → Prop} {ps : List α} {cs : List Value} {p : α} {va vb vc vd ve vf : Value} (hp : R p [va, vb, vc, vd, ve, vf]) (h : Reps R 6 ps cs) : Reps R 6 (p :: ps) (va :: vb :: vc :: vd :: ve :: vf :: cs) := Reps.front hp rfl h rfl
theorem Reps.c7 {α : Type} {R : α → List Value → Prop} {ps : List α} {cs : List Value} {p : α} {va vb vc vd ve vf vg : Value} (hp : R p [va, vb, vc, vd, ve, vf, vg]) (h : Reps R 7 ps cs) : Reps R 7 (p :: ps) (va :: vb :: vc :: vd :: ve :: vf :: vg :: cs) := Reps.front hp rfl h rfl
theorem Reps.c8 {α : Type} {R : α → List Value → Prop} {ps : List α} {cs : List Value} {p : α} {va vb vc vd ve vf vg vh : Value} (hp : R p [va, vb, vc, vd, ve, vf, vg, vh]) (h : Reps R 8 ps cs) : Reps R 8 (p :: ps) (va :: vb :: vc :: vd :: ve :: vf :: vg :: vh :: cs) := Reps.front hp rfl h rfl
theorem Reps.c9 {α : Type} {R : α → List Value → Prop} {ps : List α} {cs : List Value} {p : α} {va vb vc vd ve vf vg vh vi : Value} (hp : R p [va, vb, vc, vd, ve, vf, vg, vh, vi]) (h : Reps R 9 ps cs) : Reps R 9 (p :: ps) (va :: vb :: vc :: vd :: ve :: vf :: vg :: vh :: vi :: cs) := Reps.front hp rfl h rfl
theorem Reps.c10 {α : Type} {R : α → List Value → Prop} {ps : List α} {cs : List Value} {p : α} {va vb vc vd ve vf vg vh vi vj : Value} (hp : R p [va, vb, vc, vd, ve, vf, vg, vh, vi, vj]) (h : Reps R 10 ps cs) : Reps R 10 (p :: ps) (va :: vb :: vc :: vd :: ve :: vf :: vg :: vh :: vi :: vj :: cs) := Reps.front hp rfl h rfl
end Go.Proofs.YtbddfnmhhmkfkaaW.PrintWords
namespace Go.Proofs.YtbddfnmhhmkfkaaW.PrintWords
open Go.RowKit
theorem own_apart {v1 v2 : Value} {n : Nat} (hlt : ∀ k, v1.ownBlock = some k → k < n) (hge : ∀ k, v2.ownBlock = some k → n ≤ k) : v1.ownBlock = none ∨ v1.ownBlock ≠ v2.ownBlock := by
 cases h : v1.ownBlock with
 | none => exact .inl rfl
 | some k => exact .inr (fun e => by have := hlt k h; have := hge k e.symm; omega)
section
variable {P : Program} {ops : Array Oper} {rest : List Oper} {o : Oper} {a : Act} {Q : Exit → Act → World → Prop} {W : World}
theorem gate_guard (hw : Region.wanted o (yielded ops a.tmps) = true) (h : wpList P ops Q ({ o with guard := none } :: rest) a W) : wpList P ops Q (o :: rest) a W := by
 have h1 : Region.wanted { o with guard := none } (yielded ops a.tmps) = true := rfl
 unfold wpList at h ⊢
 rw [if_pos h1] at h
 rw [if_pos hw]
 exact h
end
end Go.Proofs.YtbddfnmhhmkfkaaW.PrintWords
namespace Go.Proofs.YtbddfnmhhmkfkaaW.PrintMore
open Go.RowKit Go.Proofs.YtbddfnmhhmkfkaaW.PrintWords
theorem max2_int (k k' : IntKind) (x y : Int) : Builtin.max2 (.int k x) (.int k' y) = pure (.int k (if x < y then y else x)) := by simp only [Builtin.max2, gt_iff_lt]
theorem min2_int (k k' : IntKind) (x y : Int) : Builtin.min2 (.int k x) (.int k' y) = pure (.int k (if y < x then y else x)) := by simp only [Builtin.min2]
theorem max_two (ats : Array TypeId) (ty : TypeId) (a b : Value) : Builtin.max_ ats ty #[a, b] = (Builtin.max2 a b >>= fun s => pure s) := by simp only [Builtin.max_, List.foldlM_cons, List.foldlM_nil]
theorem min_two (ats : Array TypeId) (ty : TypeId) (a b : Value) : Builtin.min_ ats ty #[a, b] = (Builtin.min2 a b >>= fun s => pure s) := by simp only [Builtin.min_, List.foldlM_cons, List.foldlM_nil]
theorem max_three (ats : Array TypeId) (ty : TypeId) (a b c : Value) : Builtin.max_ ats ty #[a, b, c] = (Builtin.max2 a b >>= fun s => Builtin.max2 s c >>= fun s => pure s) := by simp only [Builtin.max_, List.foldlM_cons, List.foldlM_nil]
theorem min_three (ats : Array TypeId) (ty : TypeId) (a b c : Value) : Builtin.min_ ats ty #[a, b, c] = (Builtin.min2 a b >>= fun s => Builtin.min2 s c >>= fun s => pure s) := by simp only [Builtin.min_, List.foldlM_cons, List.foldlM_nil]
theorem max_four (ats : Array TypeId) (ty : TypeId) (a b c d : Value) : Builtin.max_ ats ty #[a, b, c, d] = (Builtin.max2 a b >>= fun s => Builtin.max2 s c >>= fun s => Builtin.max2 s d >>= fun s => pure s) := by simp only [Builtin.max_, List.foldlM_cons, List.foldlM_nil]
theorem min_four (ats : Array TypeId) (ty : TypeId) (a b c d : Value) : Builtin.min_ ats ty #[a, b, c, d] = (Builtin.min2 a b >>= fun s => Builtin.min2 s c >>= fun s => Builtin.min2 s d >>= fun s => pure s) := by simp only [Builtin.min_, List.foldlM_cons, List.foldlM_nil]
end Go.Proofs.YtbddfnmhhmkfkaaW.PrintMore
namespace Go.Proofs.YtbddfnmhhmkfkaaW.PrintWords
open Go.RowKit
section
variable {P : Program} {ops : Array Oper} {rest : List Oper} {o : Oper} {a : Act} {Q : Exit → Act → World → Prop} {W : World}
theorem gate_callee {f : FuncId} {as_ : Array Operand} {ts : Array TypeId} (_ho : o.op = .call { callee := .value (.func f), args := as_, argTypes := ts }) (h : wpList P ops Q (o :: rest) a W) : wpList P ops Q (o :: rest) a W := h
theorem gate_builtin {b : Builtin} {xs : Array Operand} {ts : Array TypeId} (_ho : o.op = .call { callee := .builtin b, args := xs, argTypes := ts }) (h : wpList P ops Q (o :: rest) a W) : wpList P ops Q (o :: rest) a W := h
end
def mx (a b : Int) : Int := if a < b then b else a
def mn (a b : Int) : Int := if b < a then b else a
def shl (k : IntKind) (x y : Int) : Int := k.wrap (x * 2 ^ min y.toNat k.bits)
theorem shl_small {k : IntKind} {x y j : Int} (h : shl k x y = j) (hy : y ≤ k.bits) : k.wrap (x * 2 ^ y.toNat) = j := by rw [← h]; unfold shl; rw [Nat.min_eq_left (by omega)]
namespace Kd
def V {α : Type} (d : Kd α) (_e : Nat) (W : World) (_base : Nat) (ok : Nat → Prop) (v : Value) (xs : List α) : Prop := ∃ A c, v = .slice A xs.length c ∧ xs.length ≤ c ∧ F d W ok A xs.length xs
section
variable {α β : Type} {d : Kd α} {e base base' n m c g N' lo hi : Nat} {ok ok' S : Nat → Prop} {w W w1 : World} {A : Option Addr} {ad : Addr} {u v v1 : Value} {xs : List α}
theorem V_nil (d : Kd α) (e : Nat) (W : World) (base : Nat) (ok : Nat → Prop) : V d e W base ok (.slice none 0 0) [] := ⟨none, 0, rfl, Nat.le_refl _, F_nil d W ok⟩
end
end Kd
end Go.Proofs.YtbddfnmhhmkfkaaW.PrintWords
namespace Go.Proofs.Ytbddfnmhhmkfkaa.Pr
open Go.RowKit Go.Proofs.YtbddfnmhhmkfkaaW.PrintWords Go.Proofs.YtbddfnmhhmkfkaaW.PrintLast Go.Proofs.YtbddfnmhhmkfkaaW.PrintMore
attribute [local go_sem] max2_int min2_int max_two min_two max_three min_three max_four min_four
def errW : Option Int → Value
 | none => .nilIface
 | some c => .iface 0 (.int .i64 c)
theorem errW_none : errW none = .nilIface := rfl
theorem errW_some (c : Int) : errW (some c) = .iface 0 (.int .i64 c) := rfl
theorem info3 : (Try.prog.info? 3).map (fun i => (i.zero, i.size, i.bytes)) = some (some (.int .i64 0), 1, 8) := by kernel_rfl
theorem info43 : (Try.prog.info? 43).map (fun i => (i.zero, i.size, i.bytes)) = some (some (.agg #[(.int .i64 0), (.int .i64 0), (.int .i64 0), (.int .i64 0), (.int .i64 0)]), 5, 40) := by kernel_rfl
structure S43 where
 f0 : Int
 f1 : Int
 f2 : Int
 f3 : Int
 f4 : Int
def z43 : S43 := ⟨(0 : Int), (0 : Int), (0 : Int), (0 : Int), (0 : Int)⟩
def k43 : Kd S43 := Kd.iso (Kd.pair (Kd.int .i64) (Kd.pair (Kd.int .i64) (Kd.pair (Kd.int .i64) (Kd.pair (Kd.int .i64) (Kd.int .i64))))) (fun x : S43 => (x.f0, x.f1, x.f2, x.f3, x.f4))
theorem k43_open {w : World} {x : S43} {cs : List Value} (h : k43.K w x cs) : cs = [.int .i64 x.f0, .int .i64 x.f1, .int .i64 x.f2, .int .i64 x.f3, .int .i64 x.f4] := by
 obtain ⟨_, _, rfl, rfl, ⟨_, _, rfl, rfl, ⟨_, _, rfl, rfl, ⟨_, _, rfl, rfl, rfl⟩⟩⟩⟩ := h
 exact rfl
theorem k43_mk (w : World) (x : S43)  : k43.K w x [.int .i64 x.f0, .int .i64 x.f1, .int .i64 x.f2, .int .i64 x.f3, .int .i64 x.f4] := ⟨[.int .i64 x.f0], [.int .i64 x.f1, .int .i64 x.f2, .int .i64 x.f3, .int .i64 x.f4], rfl, rfl, ⟨[.int .i64 x.f1], [.int .i64 x.f2, .int .i64 x.f3, .int .i64 x.f4], rfl, rfl, ⟨[.int .i64 x.f2], [.int .i64 x.f3, .int .i64 x.f4], rfl, rfl, ⟨[.int .i64 x.f3], [.int .i64 x.f4], rfl, rfl, rfl⟩⟩⟩⟩
theorem k43_mkM (w : World) (base : Nat) (ok : Nat → Prop) (x : S43)  : k43.M w base ok x [.int .i64 x.f0, .int .i64 x.f1, .int .i64 x.f2, .int .i64 x.f3, .int .i64 x.f4] := ⟨[.int .i64 x.f0], [.int .i64 x.f1, .int .i64 x.f2, .int .i64 x.f3, .int .i64 x.f4], rfl, rfl, ⟨[.int .i64 x.f1], [.int .i64 x.f2, .int .i64 x.f3, .int .i64 x.f4], rfl, rfl, ⟨[.int .i64 x.f2], [.int .i64 x.f3, .int .i64 x.f4], rfl, rfl, ⟨[.int .i64 x.f3], [.int .i64 x.f4], rfl, rfl, rfl⟩⟩⟩⟩
def rd_T43 (xs : List S43) (i : Int) : S43 := xs.getD i.toNat z43
theorem at_T43 {w : World} {A : Option Addr} {n : Nat} {xs : List S43} (h : Kd.C k43 w A n xs) (i : Int) (h0 : 0 ≤ i) (h1 : i < n) : ∃ ad , A = some ad ∧ w.cell? (ad.add (i.toNat * 5)) = some (.int .i64 (rd_T43 xs i).f0) ∧ w.cell? ⟨(ad.add (i.toNat * 5)).block, (ad.add (i.toNat * 5)).off + 1, none⟩ = some (.int .i64 (rd_T43 xs i).f1) ∧ w.cell? ⟨(ad.add (i.toNat * 5)).block, (ad.add (i.toNat * 5)).off + 2, none⟩ = some (.int .i64 (rd_T43 xs i).f2) ∧ w.cell? ⟨(ad.add (i.toNat * 5)).block, (ad.add (i.toNat * 5)).off + 3, none⟩ = some (.int .i64 (rd_T43 xs i).f3) ∧ w.cell? ⟨(ad.add (i.toNat * 5)).block, (ad.add (i.toNat * 5)).off + 4, none⟩ = some (.int .i64 (rd_T43 xs i).f4) := by
 obtain ⟨ad, c, e, _, hK, hc0⟩ := Kd.C_get h z43 i h0 h1
 have hc : ∀ j u, c[j]? = some u → w.cell? (ad.add (i.toNat * 5 + j)) = some u := hc0
 obtain rfl := k43_open hK
 exact ⟨ad, e, hc 0 _ rfl, by rw [← add_field _ _ 1 (by omega)]; exact hc 1 _ rfl, by rw [← add_field _ _ 2 (by omega)]; exact hc 2 _ rfl, by rw [← add_field _ _ 3 (by omega)]; exact hc 3 _ rfl, by rw [← add_field _ _ 4 (by omega)]; exact hc 4 _ rfl⟩
structure S85 where
 f0 : Int
 f1 : Int
 f2 : Int
def z85 : S85 := ⟨(0 : Int), (0 : Int), (0 : Int)⟩
def k85 : Kd S85 := Kd.iso (Kd.pair (Kd.int .i64) (Kd.pair (Kd.int .i64) (Kd.int .i64))) (fun x : S85 => (x.f0, x.f1, x.f2))
theorem k85_open {w : World} {x : S85} {cs : List Value} (h : k85.K w x cs) : cs = [.int .i64 x.f0, .int .i64 x.f1, .int .i64 x.f2] := by
 obtain ⟨_, _, rfl, rfl, ⟨_, _, rfl, rfl, rfl⟩⟩ := h
 exact rfl
theorem k85_mkM (w : World) (base : Nat) (ok : Nat → Prop) (x : S85)  : k85.M w base ok x [.int .i64 x.f0, .int .i64 x.f1, .int .i64 x.f2] := ⟨[.int .i64 x.f0], [.int .i64 x.f1, .int .i64 x.f2], rfl, rfl, ⟨[.int .i64 x.f1], [.int .i64 x.f2], rfl, rfl, rfl⟩⟩
def rd_T85 (xs : List S85) (i : Int) : S85 := xs.getD i.toNat z85
theorem at_T85 {w : World} {A : Option Addr} {n : Nat} {xs : List S85} (h : Kd.C k85 w A n xs) (i : Int) (h0 : 0 ≤ i) (h1 : i < n) : ∃ ad , A = some ad ∧ w.cell? (ad.add (i.toNat * 3)) = some (.int .i64 (rd_T85 xs i).f0) ∧ w.cell? ⟨(ad.add (i.toNat * 3)).block, (ad.add (i.toNat * 3)).off + 1, none⟩ = some (.int .i64 (rd_T85 xs i).f1) ∧ w.cell? ⟨(ad.add (i.toNat * 3)).block, (ad.add (i.toNat * 3)).off + 2, none⟩ = some (.int .i64 (rd_T85 xs i).f2) := by
 obtain ⟨ad, c, e, _, hK, hc0⟩ := Kd.C_get h z85 i h0 h1
 have hc : ∀ j u, c[j]? = some u → w.cell? (ad.add (i.toNat * 3 + j)) = some u := hc0
 obtain rfl := k85_open hK
 exact ⟨ad, e, hc 0 _ rfl, by rw [← add_field _ _ 1 (by omega)]; exact hc 1 _ rfl, by rw [← add_field _ _ 2 (by omega)]; exact hc 2 _ rfl⟩
end Go.Proofs.Ytbddfnmhhmkfkaa.Pr
namespace Go.Proofs.Ytbddfnmhhmkfkaa.Pr
open Go.RowKit Go.ChangeShapes Go.WideShapes Go.Deep Go.Proofs.YtbddfnmhhmkfkaaW.PrintWords
section
variable {H : Type} {enc : TypeId × Value → H} {w : World} {base : Nat} {spare : Nat → Bool} {held : Bool}
theorem cells43 : Try.prog.cellsOf 43 = 5 := by kernel_rfl
theorem cells3 : Try.prog.cellsOf 3 = 1 := by kernel_rfl
theorem bytes43 : Try.prog.bytesOf 43 = 40 := by kernel_rfl
set_option maxRecDepth 100000 in
theorem item_open {n : Nat} {cs : List Value} {y : DataW H × List MemPlace} (h : DataW.trod enc Try.prog w base spare held n 43 cs = some y) :
  ∃ x : S43, cs = [.int .i64 x.f0, .int .i64 x.f1, .int .i64 x.f2, .int .i64 x.f3, .int .i64 x.f4] := by
 obtain ⟨ys, m, rfl, _, hlen, hyl, hf⟩ := DataW.trod_struct Try.underlying43 h
 rw [cells43] at hlen
 match cs, hlen with
 | [c0, c1, c2, c3, c4], _ =>
  match ys, hyl with
  | [y0, y1, y2, y3, y4], _ =>
   have g0 : DataW.trod enc Try.prog w base spare held m 3 (([c0, c1, c2, c3, c4].drop 0).take (Try.prog.cellsOf 3)) = some y0 := hf 0 _ rfl
   have g1 : DataW.trod enc Try.prog w base spare held m 3 (([c0, c1, c2, c3, c4].drop 1).take (Try.prog.cellsOf 3)) = some y1 := hf 1 _ rfl
   have g2 : DataW.trod enc Try.prog w base spare held m 3 (([c0, c1, c2, c3, c4].drop 2).take (Try.prog.cellsOf 3)) = some y2 := hf 2 _ rfl
   have g3 : DataW.trod enc Try.prog w base spare held m 3 (([c0, c1, c2, c3, c4].drop 3).take (Try.prog.cellsOf 3)) = some y3 := hf 3 _ rfl
   have g4 : DataW.trod enc Try.prog w base spare held m 3 (([c0, c1, c2, c3, c4].drop 4).take (Try.prog.cellsOf 3)) = some y4 := hf 4 _ rfl
   rw [cells3] at g0 g1 g2 g3 g4
   obtain ⟨n0, e0, _⟩ := DataW.trod_int Try.underlying3 g0
   obtain ⟨n1, e1, _⟩ := DataW.trod_int Try.underlying3 g1
   obtain ⟨n2, e2, _⟩ := DataW.trod_int Try.underlying3 g2
   obtain ⟨n3, e3, _⟩ := DataW.trod_int Try.underlying3 g3
   obtain ⟨n4, e4, _⟩ := DataW.trod_int Try.underlying3 g4
   simp at e0 e1 e2 e3 e4
   exact ⟨⟨n0, n1, n2, n3, n4⟩, by rw [e0, e1, e2, e3, e4]⟩
set_option maxRecDepth 100000 in
theorem open_S {a : Option Addr} {len cap : Nat} {d : DataW H} {ps : List MemPlace} {ts : List TypeId} {ds : List (DataW H)} {j : Nat}
  (hsz : (DataW.weightsEach Try.prog ts ds).all (· ≤ reachBytes) = true) (ht : ts[j]? = some 22) (hd : ds[j]? = some d)
  (h : DataW.Trod enc Try.prog w base spare held 22 (.slice a len cap) d ps) :
  ∃ l : List S43, len = l.length ∧ Kd.C k43 w a l.length l ∧ l.length ≤ cap ∧ l.length * 40 ≤ 140737488351232 := by
 obtain ⟨fuel, hf⟩ := h
 rcases open_slice Try.underlying22 hf with ⟨hcs, _⟩ | ⟨x, len', cap', m, n, D, Pl, hcs, _, hl, hcm, hm, hx, hi⟩
 ·simp [Value.cells] at hcs
  obtain ⟨rfl, rfl, rfl⟩ := hcs
  exact ⟨[], rfl, ⟨rfl, by simp, fun h => absurd h (by simp)⟩, Nat.le_refl _, by simp⟩
 ·simp [Value.cells] at hcs
  obtain ⟨rfl, rfl, rfl⟩ := hcs
  obtain ⟨hx1, _⟩ := Prod.mk.inj hx
  subst hx1
  have z := sized_slice hsz ht hd Try.underlying22
  rw [bytes43] at z
  have hlm : len ≤ m := by rw [hm]; split <;> omega
  have hit : ∀ i, i < len → ∃ y : S43, ∀ k u, [Value.int .i64 y.f0, .int .i64 y.f1, .int .i64 y.f2, .int .i64 y.f3, .int .i64 y.f4][k]? = some u → w.cell? (x.add (i * 5 + k)) = some u := fun i hil => by
   obtain ⟨cs', hc, htr⟩ := hi i (by omega)
   rw [cells43] at hc
   obtain ⟨y, rfl⟩ := item_open htr
   obtain ⟨_, _, hat⟩ := World.cells?_some hc
   refine ⟨y, fun k u hk => ?_⟩
   have hk5 : k < 5 := by
    have := (List.getElem?_eq_some_iff.1 hk).1
    simpa using this
   have := hat k hk5
   rw [hk, Go.Deep.add_add] at this
   exact this
  let f : Nat → S43 := fun i => if hil : i < len then (hit i hil).choose else z43
  have hfs : ∀ i, i < len → ∀ k u, [Value.int .i64 (f i).f0, .int .i64 (f i).f1, .int .i64 (f i).f2, .int .i64 (f i).f3, .int .i64 (f i).f4][k]? = some u → w.cell? (x.add (i * 5 + k)) = some u := fun i hil => by
   show ∀ k u, [Value.int .i64 (if hil : i < len then (hit i hil).choose else z43).f0, .int .i64 (if hil : i < len then (hit i hil).choose else z43).f1, .int .i64 (if hil : i < len then (hit i hil).choose else z43).f2, .int .i64 (if hil : i < len then (hit i hil).choose else z43).f3, .int .i64 (if hil : i < len then (hit i hil).choose else z43).f4][k]? = some u → _
   rw [dif_pos hil]
   exact (hit i hil).choose_spec
  have hll : ((List.range len).map f).length = len := by simp
  have hl40 : len * 40 ≤ 140737488351232 := by
   have h1 : ((List.range len).map D).length = len := by simp
   rw [h1] at z
   exact Nat.le_trans (Nat.mul_le_mul_right _ (by omega)) z
  refine ⟨(List.range len).map f, hll.symm, ⟨rfl, by rw [hll]; omega, fun _ => ⟨x, rfl, fun i p hp => ?_⟩⟩, by rw [hll]; exact hl, by rw [hll]; exact hl40⟩
  rw [List.getElem?_map] at hp
  obtain ⟨i', hi', rfl⟩ := Option.map_eq_some_iff.1 hp
  obtain ⟨hlt, rfl⟩ := List.getElem?_eq_some_iff.1 hi'
  simp only [List.length_range] at hlt
  simp only [List.getElem_range]
  exact ⟨_, rfl, k43_mk _ _, hfs i hlt⟩
end
end Go.Proofs.Ytbddfnmhhmkfkaa.Pr
namespace Go.Proofs.Ytbddfnmhhmkfkaa.Pr
open Go.RowKit Go.Proofs.YtbddfnmhhmkfkaaW.PrintWords Go.Proofs.YtbddfnmhhmkfkaaW.PrintLast Go.Proofs.YtbddfnmhhmkfkaaW.PrintMore
attribute [local go_sem] max2_int min2_int max_two min_two max_three min_three max_four min_four
theorem info55 : (Try.prog.info? 55).map (fun i => (i.zero, i.size, i.bytes)) = some (some (.agg #[(.slice none 0 0), (.int .i64 0), (.int .i64 0)]), 3, 40) := by kernel_rfl
theorem info57 : (Try.prog.info? 57).map (fun i => (i.zero, i.size, i.bytes)) = some (some (.agg #[(.int .i64 0), (.int .u8 0), (.int .i64 0), (.int .i64 0)]), 4, 32) := by kernel_rfl
theorem info101 : (Try.prog.info? 101).map (fun i => (i.zero, i.size, i.bytes)) = some (some (.agg #[(.int .i64 0), (.int .u8 0), (.int .i64 0)]), 3, 24) := by kernel_rfl
structure S101 where
 f0 : Int
 f1 : Int
 f2 : Int
def z101 : S101 := ⟨(0 : Int), (0 : Int), (0 : Int)⟩
def k101 : Kd S101 := Kd.iso (Kd.pair (Kd.int .i64) (Kd.pair (Kd.int .u8) (Kd.int .i64))) (fun x : S101 => (x.f0, x.f1, x.f2))
theorem k101_open {w : World} {x : S101} {cs : List Value} (h : k101.K w x cs) : cs = [.int .i64 x.f0, .int .u8 x.f1, .int .i64 x.f2] := by
 obtain ⟨_, _, rfl, rfl, ⟨_, _, rfl, rfl, rfl⟩⟩ := h
 exact rfl
theorem k101_mk (w : World) (x : S101)  : k101.K w x [.int .i64 x.f0, .int .u8 x.f1, .int .i64 x.f2] := ⟨[.int .i64 x.f0], [.int .u8 x.f1, .int .i64 x.f2], rfl, rfl, ⟨[.int .u8 x.f1], [.int .i64 x.f2], rfl, rfl, rfl⟩⟩
theorem k101_mkM (w : World) (base : Nat) (ok : Nat → Prop) (x : S101)  : k101.M w base ok x [.int .i64 x.f0, .int .u8 x.f1, .int .i64 x.f2] := ⟨[.int .i64 x.f0], [.int .u8 x.f1, .int .i64 x.f2], rfl, rfl, ⟨[.int .u8 x.f1], [.int .i64 x.f2], rfl, rfl, rfl⟩⟩
def rd_T101 (xs : List S101) (i : Int) : S101 := xs.getD i.toNat z101
theorem at_T101 {w : World} {A : Option Addr} {n : Nat} {xs : List S101} (h : Kd.C k101 w A n xs) (i : Int) (h0 : 0 ≤ i) (h1 : i < n) : ∃ ad , A = some ad ∧ w.cell? (ad.add (i.toNat * 3)) = some (.int .i64 (rd_T101 xs i).f0) ∧ w.cell? ⟨(ad.add (i.toNat * 3)).block, (ad.add (i.toNat * 3)).off + 1, none⟩ = some (.int .u8 (rd_T101 xs i).f1) ∧ w.cell? ⟨(ad.add (i.toNat * 3)).block, (ad.add (i.toNat * 3)).off + 2, none⟩ = some (.int .i64 (rd_T101 xs i).f2) := by
 obtain ⟨ad, c, e, _, hK, hc0⟩ := Kd.C_get h z101 i h0 h1
 have hc : ∀ j u, c[j]? = some u → w.cell? (ad.add (i.toNat * 3 + j)) = some u := hc0
 obtain rfl := k101_open hK
 exact ⟨ad, e, hc 0 _ rfl, by rw [← add_field _ _ 1 (by omega)]; exact hc 1 _ rfl, by rw [← add_field _ _ 2 (by omega)]; exact hc 2 _ rfl⟩
structure S57 where
 f0 : Int
 f1 : Int
 f2 : Int
 f3 : Int
def z57 : S57 := ⟨(0 : Int), (0 : Int), (0 : Int), (0 : Int)⟩
def k57 : Kd S57 := Kd.iso (Kd.pair (Kd.int .i64) (Kd.pair (Kd.int .u8) (Kd.pair (Kd.int .i64) (Kd.int .i64)))) (fun x : S57 => (x.f0, x.f1, x.f2, x.f3))
theorem k57_open {w : World} {x : S57} {cs : List Value} (h : k57.K w x cs) : cs = [.int .i64 x.f0, .int .u8 x.f1, .int .i64 x.f2, .int .i64 x.f3] := by
 obtain ⟨_, _, rfl, rfl, ⟨_, _, rfl, rfl, ⟨_, _, rfl, rfl, rfl⟩⟩⟩ := h
 exact rfl
theorem k57_mkM (w : World) (base : Nat) (ok : Nat → Prop) (x : S57)  : k57.M w base ok x [.int .i64 x.f0, .int .u8 x.f1, .int .i64 x.f2, .int .i64 x.f3] := ⟨[.int .i64 x.f0], [.int .u8 x.f1, .int .i64 x.f2, .int .i64 x.f3], rfl, rfl, ⟨[.int .u8 x.f1], [.int .i64 x.f2, .int .i64 x.f3], rfl, rfl, ⟨[.int .i64 x.f2], [.int .i64 x.f3], rfl, rfl, rfl⟩⟩⟩
def rd_T57 (xs : List S57) (i : Int) : S57 := xs.getD i.toNat z57
theorem at_T57 {w : World} {A : Option Addr} {n : Nat} {xs : List S57} (h : Kd.C k57 w A n xs) (i : Int) (h0 : 0 ≤ i) (h1 : i < n) : ∃ ad , A = some ad ∧ w.cell? (ad.add (i.toNat * 4)) = some (.int .i64 (rd_T57 xs i).f0) ∧ w.cell? ⟨(ad.add (i.toNat * 4)).block, (ad.add (i.toNat * 4)).off + 1, none⟩ = some (.int .u8 (rd_T57 xs i).f1) ∧ w.cell? ⟨(ad.add (i.toNat * 4)).block, (ad.add (i.toNat * 4)).off + 2, none⟩ = some (.int .i64 (rd_T57 xs i).f2) ∧ w.cell? ⟨(ad.add (i.toNat * 4)).block, (ad.add (i.toNat * 4)).off + 3, none⟩ = some (.int .i64 (rd_T57 xs i).f3) := by
 obtain ⟨ad, c, e, _, hK, hc0⟩ := Kd.C_get h z57 i h0 h1
 have hc : ∀ j u, c[j]? = some u → w.cell? (ad.add (i.toNat * 4 + j)) = some u := hc0
 obtain rfl := k57_open hK
 exact ⟨ad, e, hc 0 _ rfl, by rw [← add_field _ _ 1 (by omega)]; exact hc 1 _ rfl, by rw [← add_field _ _ 2 (by omega)]; exact hc 2 _ rfl, by rw [← add_field _ _ 3 (by omega)]; exact hc 3 _ rfl⟩
structure S55 where
 f0 : (List S57)
 f1 : Int
 f2 : Int
def z55 : S55 := ⟨([] : List S57), (0 : Int), (0 : Int)⟩
def k55 : Kd S55 := Kd.iso (Kd.pair (Kd.slice 57 k57) (Kd.pair (Kd.int .i64) (Kd.int .i64))) (fun x : S55 => (x.f0, x.f1, x.f2))
theorem k55_open {w : World} {x : S55} {cs : List Value} (h : k55.K w x cs) : ∃ A0 c0, cs = [.slice A0 x.f0.length c0, .int .i64 x.f1, .int .i64 x.f2] ∧ x.f0.length ≤ c0 ∧ k57.C w A0 x.f0.length x.f0 := by
 obtain ⟨_, _, rfl, ⟨A0, c0, rfl, l0, g0⟩, ⟨_, _, rfl, rfl, rfl⟩⟩ := h
 exact ⟨A0, c0, rfl, l0, g0⟩
theorem k55_openM {w : World} {base : Nat} {ok : Nat → Prop} {x : S55} {cs : List Value} (h : k55.M w base ok x cs) : ∃ v0, cs = [v0, .int .i64 x.f1, .int .i64 x.f2] ∧ k57.R 57 w base ok v0 x.f0 := by
 obtain ⟨_, _, rfl, ⟨v0, rfl, g0⟩, ⟨_, _, rfl, rfl, rfl⟩⟩ := h
 exact ⟨v0, rfl, g0⟩
theorem k55_mkM (w : World) (base : Nat) (ok : Nat → Prop) (x : S55) {v0 : Value} (g0 : k57.R 57 w base ok v0 x.f0) : k55.M w base ok x [v0, .int .i64 x.f1, .int .i64 x.f2] := ⟨[v0], [.int .i64 x.f1, .int .i64 x.f2], rfl, ⟨v0, rfl, g0⟩, ⟨[.int .i64 x.f1], [.int .i64 x.f2], rfl, rfl, rfl⟩⟩
def rd_T55 (xs : List S55) (i : Int) : S55 := xs.getD i.toNat z55
theorem at_T55 {w : World} {A : Option Addr} {n : Nat} {xs : List S55} (h : Kd.C k55 w A n xs) (i : Int) (h0 : 0 ≤ i) (h1 : i < n) : ∃ ad A0 c0, A = some ad ∧ w.cell? (ad.add (i.toNat * 3)) = some (.slice A0 (rd_T55 xs i).f0.length c0) ∧ w.cell? ⟨(ad.add (i.toNat * 3)).block, (ad.add (i.toNat * 3)).off + 1, none⟩ = some (.int .i64 (rd_T55 xs i).f1) ∧ w.cell? ⟨(ad.add (i.toNat * 3)).block, (ad.add (i.toNat * 3)).off + 2, none⟩ = some (.int .i64 (rd_T55 xs i).f2) ∧ (rd_T55 xs i).f0.length ≤ c0 ∧ k57.C w A0 (rd_T55 xs i).f0.length (rd_T55 xs i).f0 := by
 obtain ⟨ad, c, e, _, hK, hc0⟩ := Kd.C_get h z55 i h0 h1
 have hc : ∀ j u, c[j]? = some u → w.cell? (ad.add (i.toNat * 3 + j)) = some u := hc0
 obtain ⟨A0, c0, rfl, l0, g0⟩ := k55_open hK
 exact ⟨ad, A0, c0, e, hc 0 _ rfl, by rw [← add_field _ _ 1 (by omega)]; exact hc 1 _ rfl, by rw [← add_field _ _ 2 (by omega)]; exact hc 2 _ rfl, l0, g0⟩
end Go.Proofs.Ytbddfnmhhmkfkaa.Pr
namespace Go.Proofs.Ytbddfnmhhmkfkaa.Pr
open Go.RowKit Go.ChangeShapes Go.WideShapes Go.Deep Go.Proofs.YtbddfnmhhmkfkaaW.PrintWords
section
variable {H : Type} {enc : TypeId × Value → H} {w : World} {base : Nat} {spare : Nat → Bool} {held : Bool}
theorem cellsOf101 : Try.prog.cellsOf 101 = 3 := by kernel_rfl
theorem bytesOf101 : Try.prog.bytesOf 101 = 24 := by kernel_rfl
theorem cellsOf101_3 : Try.prog.cellsOf 3 = 1 := by kernel_rfl
theorem cellsOf101_5 : Try.prog.cellsOf 5 = 1 := by kernel_rfl
set_option maxRecDepth 100000 in
theorem item_open101 {n : Nat} {cs : List Value} {y : DataW H × List MemPlace} (h : DataW.trod enc Try.prog w base spare held n 101 cs = some y) :
  ∃ x : S101, cs = [.int .i64 x.f0, .int .u8 x.f1, .int .i64 x.f2] := by
 obtain ⟨ys, m, rfl, _, hlen, hyl, hf⟩ := DataW.trod_struct Try.underlying101 h
 rw [cellsOf101] at hlen
 match cs, hlen with
 | [c0, c1, c2], _ =>
  match ys, hyl with
  | [y0, y1, y2], _ =>
   have g0 : DataW.trod enc Try.prog w base spare held m 3 (([c0, c1, c2].drop 0).take (Try.prog.cellsOf 3)) = some y0 := hf 0 _ rfl
   have g1 : DataW.trod enc Try.prog w base spare held m 5 (([c0, c1, c2].drop 1).take (Try.prog.cellsOf 5)) = some y1 := hf 1 _ rfl
   have g2 : DataW.trod enc Try.prog w base spare held m 3 (([c0, c1, c2].drop 2).take (Try.prog.cellsOf 3)) = some y2 := hf 2 _ rfl
   rw [cellsOf101_3] at g0
   rw [cellsOf101_5] at g1
   rw [cellsOf101_3] at g2
   obtain ⟨n0, e0, _⟩ := DataW.trod_int Try.underlying3 g0
   obtain ⟨n1, e1, _⟩ := DataW.trod_int Try.underlying5 g1
   obtain ⟨n2, e2, _⟩ := DataW.trod_int Try.underlying3 g2
   simp at e0 e1 e2
   exact ⟨⟨n0, n1, n2⟩, by rw [e0, e1, e2]⟩
set_option maxRecDepth 100000 in
theorem open_K {a : Option Addr} {len cap : Nat} {d : DataW H} {ps : List MemPlace} {ts : List TypeId} {ds : List (DataW H)} {j : Nat}
  (hsz : (DataW.weightsEach Try.prog ts ds).all (· ≤ reachBytes) = true) (ht : ts[j]? = some 44) (hd : ds[j]? = some d)
  (h : DataW.Trod enc Try.prog w base spare held 44 (.slice a len cap) d ps) :
  ∃ l : List S101, len = l.length ∧ Kd.C k101 w a l.length l ∧ l.length ≤ cap ∧ l.length * 24 ≤ 140737488351232 := by
 obtain ⟨fuel, hf⟩ := h
 rcases open_slice Try.underlying44 hf with ⟨hcs, _⟩ | ⟨x, len', cap', m, n, D, Pl, hcs, _, hl, hcm, hm, hx, hi⟩
 ·simp [Value.cells] at hcs
  obtain ⟨rfl, rfl, rfl⟩ := hcs
  exact ⟨[], rfl, ⟨rfl, by simp, fun h => absurd h (by simp)⟩, Nat.le_refl _, by simp⟩
 ·simp [Value.cells] at hcs
  obtain ⟨rfl, rfl, rfl⟩ := hcs
  obtain ⟨hx1, _⟩ := Prod.mk.inj hx
  subst hx1
  have z := sized_slice hsz ht hd Try.underlying44
  rw [bytesOf101] at z
  have hlm : len ≤ m := by rw [hm]; split <;> omega
  have hit : ∀ i, i < len → ∃ y : S101, ∀ k u, [Value.int .i64 y.f0, Value.int .u8 y.f1, Value.int .i64 y.f2][k]? = some u → w.cell? (x.add (i * 3 + k)) = some u := fun i hil => by
   obtain ⟨cs', hc, htr⟩ := hi i (by omega)
   rw [cellsOf101] at hc
   obtain ⟨y, rfl⟩ := item_open101 htr
   obtain ⟨_, _, hat⟩ := World.cells?_some hc
   refine ⟨y, fun k u hk => ?_⟩
   have hk5 : k < 3 := by
    have := (List.getElem?_eq_some_iff.1 hk).1
    simpa using this
   have := hat k hk5
   rw [hk, Go.Deep.add_add] at this
   exact this
  let f : Nat → S101 := fun i => if hil : i < len then (hit i hil).choose else z101
  have hfs : ∀ i, i < len → ∀ k u, [Value.int .i64 (f i).f0, Value.int .u8 (f i).f1, Value.int .i64 (f i).f2][k]? = some u → w.cell? (x.add (i * 3 + k)) = some u := fun i hil => by
   show ∀ k u, [Value.int .i64 (if hil : i < len then (hit i hil).choose else z101).f0, Value.int .u8 (if hil : i < len then (hit i hil).choose else z101).f1, Value.int .i64 (if hil : i < len then (hit i hil).choose else z101).f2][k]? = some u → _
   rw [dif_pos hil]
   exact (hit i hil).choose_spec
  have hll : ((List.range len).map f).length = len := by simp
  have hl40 : len * 24 ≤ 140737488351232 := by
   have h1 : ((List.range len).map D).length = len := by simp
   rw [h1] at z
   exact Nat.le_trans (Nat.mul_le_mul_right _ (by omega)) z
  refine ⟨(List.range len).map f, hll.symm, ⟨rfl, by rw [hll]; omega, fun _ => ⟨x, rfl, fun i p hp => ?_⟩⟩, by rw [hll]; exact hl, by rw [hll]; exact hl40⟩
  rw [List.getElem?_map] at hp
  obtain ⟨i', hi', rfl⟩ := Option.map_eq_some_iff.1 hp
  obtain ⟨hlt, rfl⟩ := List.getElem?_eq_some_iff.1 hi'
  simp only [List.length_range] at hlt
  simp only [List.getElem_range]
  exact ⟨_, rfl, k101_mk _ _, hfs i hlt⟩
end
end Go.Proofs.Ytbddfnmhhmkfkaa.Pr
namespace Go.Det
open Go
variable {P : Program} {ops : Array Oper} {Q : Exit → Act → World → Prop} {S : World → Prop}
def NoOut : Exit → Act → World → Prop := fun _ _ _ => False
theorem noOut_lets : ¬ LetsOut NoOut := fun ⟨_, _, h⟩ => h
theorem upon_imp {o : Oper} {a : Act} {K K' : Act → World → Prop} {r : Result Next} (h : ∀ a w, K a w → K' a w) (hh : o.upon P a K NoOut r) : o.upon P a K' Q r := by
 cases r with
 | ok n w' =>
  cases n <;> simp only [Oper.upon] at hh ⊢ <;>
   first
    | exact h _ _ hh
    | exact Calls.mono hh (fun e w'' he => by cases e <;> first | exact h _ _ he | exact he.elim | exact (noOut_lets he).elim)
    | exact Rows.mono hh (fun _ _ he => h _ _ he)
 | halt x w' => cases x <;> simp only [Oper.upon] at hh ⊢ <;> exact hh.elim
theorem put_inj {a b : Act} {dst : Option Tmp} {u v : Value} (hs : b.tmps.size = a.tmps.size) (h : a.put dst u = a.put dst v) : b.put dst u = b.put dst v := by
 cases dst with
 | none => rfl
 | some d =>
  by_cases hd : d < a.tmps.size
  ·have h1 : (a.put (some d) u).tmps[d]? = (a.put (some d) v).tmps[d]? := by rw [h]
   simp only [Act.put, Array.getElem?_setIfInBounds, if_pos hd, if_true, Option.some.injEq] at h1
   rw [h1]
  ·simp only [Act.put]
   rw [Array.setIfInBounds_eq_of_size_le (by rw [hs]; exact Nat.le_of_not_lt hd), Array.setIfInBounds_eq_of_size_le (by rw [hs]; exact Nat.le_of_not_lt hd)]
theorem upon_same {o : Oper} {x y : Act} {v : Value} {r : Result Next} (hs : y.tmps.size = x.tmps.size) (hh : o.upon P x (fun a' w' => a' = x.put o.dst v ∧ S w') NoOut r) :
  o.upon P y (fun a' w' => a' = y.put o.dst v ∧ S w') NoOut r := by
 cases r with
 | ok n w' =>
  cases n <;> simp only [Oper.upon] at hh ⊢ <;>
   first
    | exact ⟨put_inj hs hh.1, hh.2⟩
    | exact Calls.mono hh (fun e w'' he => by cases e <;> first | exact ⟨put_inj hs he.1, he.2⟩ | exact he.elim | exact (noOut_lets he).elim)
    | exact Rows.mono hh (fun _ _ he => ⟨put_inj hs he.1, he.2⟩)
    | skip
  rename_i d
  exfalso
  have := congrArg (fun a : Act => a.defers.length) hh.1
  cases hd : o.dst <;> simp [hd, Act.put] at this
 | halt x w' => cases x <;> simp only [Oper.upon] at hh ⊢ <;> exact hh.elim
def StepV (P : Program) (ops : Array Oper) (S : World → Prop) (a : Act) (o : Oper) (v : Value) : Prop :=
 (Region.wanted o (yielded ops a.tmps) = true ∧ ∀ w, S w → o.wp P a w (fun a' w' => a' = a.put o.dst v ∧ S w') NoOut) ∨
 (Region.wanted o (yielded ops a.tmps) = false ∧ v = undef)
def SeqL (P : Program) (ops : Array Oper) (S : World → Prop) (R : Act → Prop) : List Oper → Act → Prop
 | [], a => R a
 | o :: rest, a => ∃ v, StepV P ops S a o v ∧ SeqL P ops S R rest (a.put o.dst v)
def okAt (ops : Array Oper) (i : Nat) (o : Oper) : Bool :=
 (o.after.all fun e => !Region.binds .any e || decide (e.on < i)) &&
 ((List.range ops.size).all fun j => match ops[j]? with
  | none => true
  | some oj =>
   (match oj.dst with
    | none => true
    | some t => (j == i || o.dst != some t) &&
     (!(o.looksAt ops).contains t || (o.after.any fun e => Region.binds .any e && e.on == j) || (j != i && oj.after.any fun e => Region.binds .any e && e.on == i)))) &&
 (match o.op with | .select _ _ => false | _ => true)
def okOps (ops : Array Oper) : Bool := (List.range ops.size).all fun i => match ops[i]? with | none => true | some o => okAt ops i o
structure Ok (ops : Array Oper) : Prop where
 back : ∀ (i : Nat) (o : Oper), ops[i]? = some o → ∀ e ∈ o.after, Region.binds .any e = true → e.on < i
 apart : ∀ (i : Nat) (o : Oper) (j : Nat) (oj : Oper) (t : Tmp), ops[i]? = some o → ops[j]? = some oj → oj.dst = some t → j ≠ i → o.dst ≠ some t
 reads : ∀ (i : Nat) (o : Oper) (j : Nat) (oj : Oper) (t : Tmp), ops[i]? = some o → ops[j]? = some oj → oj.dst = some t → t ∈ o.looksAt ops →
  (∃ e ∈ o.after, Region.binds .any e = true ∧ e.on = j) ∨ (j ≠ i ∧ ∃ e ∈ oj.after, Region.binds .any e = true ∧ e.on = i)
 plain : ∀ (i : Nat) (o : Oper), ops[i]? = some o → ∀ cs b, o.op ≠ .select cs b
theorem lt_of_some {i : Nat} {o : Oper} (h : ops[i]? = some o) : i < ops.size := (Array.getElem?_eq_some_iff.1 h).1
theorem okOps_spec (h : okOps ops = true) : Ok ops := by
 have hat : ∀ (i : Nat) (o : Oper), ops[i]? = some o → okAt ops i o = true := fun i o hi => by
  have := List.all_eq_true.1 h i (List.mem_range.2 (lt_of_some hi))
  simpa [hi] using this
 have pair : ∀ (i : Nat) (o : Oper) (j : Nat) (oj : Oper) (t : Tmp), ops[i]? = some o → ops[j]? = some oj → oj.dst = some t → ((j == i || o.dst != some t) &&
     (!(o.looksAt ops).contains t || (o.after.any fun e => Region.binds .any e && e.on == j) || (j != i && oj.after.any fun e => Region.binds .any e && e.on == i))) = true := fun i o j oj t hi hj hd => by
  have := hat i o hi
  simp only [okAt, Bool.and_eq_true] at this
  have h2 := List.all_eq_true.1 this.1.2 j (List.mem_range.2 (lt_of_some hj))
  simp only [hj, hd] at h2
  exact h2
 refine ⟨fun i o hi e he hbe => ?_, fun i o j oj t hi hj hd hne => ?_, fun i o j oj t hi hj hd ht => ?_, fun i o hi cs b hs => ?_⟩
 ·have := hat i o hi
  simp only [okAt, Bool.and_eq_true] at this
  have := (Array.all_eq_true_iff_forall_mem.1 this.1.1) e he
  simpa [hbe] using this
 ·have := pair i o j oj t hi hj hd
  simp only [Bool.and_eq_true, Bool.or_eq_true, beq_iff_eq, bne_iff_ne] at this
  rcases this.1 with h1 | h1
  ·exact absurd h1 hne
  ·exact h1
 ·have := pair i o j oj t hi hj hd
  simp only [Bool.and_eq_true, Bool.or_eq_true, beq_iff_eq, bne_iff_ne, Bool.not_eq_true', Array.any_eq_true'] at this
  rcases this.2 with (h1 | h1) | ⟨h0, h1⟩
  ·rw [List.contains_eq_mem] at h1
   simp [ht] at h1
  ·obtain ⟨e, he, h2⟩ := h1
   exact .inl ⟨e, he, by simpa using h2⟩
  ·obtain ⟨e, he, h2⟩ := h1
   exact .inr ⟨h0, e, he, by simpa using h2⟩
 ·have := hat i o hi
  simp only [okAt, Bool.and_eq_true, hs] at this
  exact absurd this.2 (by simp)
def Fr (ops : Array Oper) (val : Nat → Value) (a : Act) (L : Nat → Bool) (x : Act) : Prop :=
 x.defers = a.defers ∧ x.tmps.size = a.tmps.size ∧ ∀ t, t < a.tmps.size →
  (∀ i o, ops[i]? = some o → L i = true → o.dst = some t → x.tmps[t]? = some (val i)) ∧
  ((∀ i o, ops[i]? = some o → L i = true → o.dst ≠ some t) → x.tmps[t]? = a.tmps[t]?)
theorem fr_start (val : Nat → Value) (a : Act) (L : Nat → Bool) (h : ∀ i, i < ops.size → L i = false) : Fr ops val a L a :=
 ⟨rfl, rfl, fun t ht => ⟨fun i o hi hl => (by rw [h i (lt_of_some hi)] at hl; exact absurd hl (by simp)), fun _ => rfl⟩⟩
theorem fr_congr {val val' : Nat → Value} {a x : Act} {L L' : Nat → Bool} (h : Fr ops val a L x) (hL : ∀ i, i < ops.size → L' i = L i) (hv : ∀ i, L i = true → val' i = val i) : Fr ops val' a L' x :=
 ⟨h.1, h.2.1, fun t ht => ⟨fun i o hi hl hd => by
   have hl' : L i = true := by rw [← hL i (lt_of_some hi)]; exact hl
   rw [hv i hl']; exact (h.2.2 t ht).1 i o hi hl' hd,
  fun hn => (h.2.2 t ht).2 fun i o hi hl => hn i o hi (by rw [hL i (lt_of_some hi)]; exact hl)⟩⟩
theorem fr_put (ok : Ok ops) {val : Nat → Value} {a x : Act} {L L' : Nat → Bool} {i : Nat} {o : Oper} (hi : ops[i]? = some o) (h : Fr ops val a L x)
  (hL : ∀ j, j < ops.size → L' j = (L j || j == i)) : Fr ops val a L' (x.put o.dst (val i)) := by
 obtain ⟨h1, h2, h3⟩ := h
 cases hd : o.dst with
 | none =>
  refine ⟨h1, h2, fun t ht => ⟨fun j oj hj hl hdj => ?_, fun hn => ?_⟩⟩
  ·rw [hL j (lt_of_some hj)] at hl
   rcases Bool.or_eq_true .. ▸ hl with hl | hl
   ·exact (h3 t ht).1 j oj hj hl hdj
   ·have : j = i := by simpa using hl
    subst this
    rw [hi] at hj
    cases hj
    rw [hd] at hdj
    cases hdj
  ·exact (h3 t ht).2 fun j oj hj hl => hn j oj hj (by rw [hL j (lt_of_some hj), hl]; rfl)
 | some d =>
  refine ⟨h1, by simp [Act.put, h2], fun t ht => ?_⟩
  by_cases htd : d = t
  ·subst htd
   have hv : (x.put (some d) (val i)).tmps[d]? = some (val i) := by simp [Act.put, h2, ht]
   refine ⟨fun j oj hj hl hdj => ?_, fun hn => absurd hd (hn i o hi (by rw [hL i (lt_of_some hi)]; simp))⟩
   by_cases hji : j = i
   ·subst hji; exact hv
   ·exact absurd hd (ok.apart i o j oj d hi hj hdj hji)
  ·have hv : (x.put (some d) (val i)).tmps[t]? = x.tmps[t]? := by simp [Act.put, Array.getElem?_setIfInBounds_ne htd]
   rw [hv]
   refine ⟨fun j oj hj hl hdj => ?_, fun hn => (h3 t ht).2 fun j oj hj hl => hn j oj hj (by rw [hL j (lt_of_some hj), hl]; rfl)⟩
   rw [hL j (lt_of_some hj)] at hl
   rcases Bool.or_eq_true .. ▸ hl with hl | hl
   ·exact (h3 t ht).1 j oj hj hl hdj
   ·have : j = i := by simpa using hl
    subst this
    rw [hi] at hj
    cases hj
    rw [hd] at hdj
    cases hdj
    exact absurd rfl htd
theorem fr_same {val : Nat → Value} {a x y : Act} {L L' : Nat → Bool} (hx : Fr ops val a L x) (hy : Fr ops val a L' y) (t : Tmp)
  (h : ∀ j oj, ops[j]? = some oj → oj.dst = some t → L j = L' j) : x.tmps[t]? = y.tmps[t]? := by
 by_cases ht : t < a.tmps.size
 ·by_cases hex : ∃ j oj, ops[j]? = some oj ∧ L j = true ∧ oj.dst = some t
  ·obtain ⟨j, oj, hj, hl, hd⟩ := hex
   rw [(hx.2.2 t ht).1 j oj hj hl hd, (hy.2.2 t ht).1 j oj hj (by rw [← h j oj hj hd]; exact hl) hd]
  ·have hn : ∀ j oj, ops[j]? = some oj → L j = true → oj.dst ≠ some t := fun j oj hj hl hd => hex ⟨j, oj, hj, hl, hd⟩
   rw [(hx.2.2 t ht).2 hn, (hy.2.2 t ht).2 fun j oj hj hl hd => hn j oj hj (by rw [h j oj hj hd]; exact hl) hd]
 ·rw [Array.getElem?_eq_none (by rw [hx.2.1]; exact Nat.le_of_not_lt ht), Array.getElem?_eq_none (by rw [hy.2.1]; exact Nat.le_of_not_lt ht)]
theorem fr_eq {val : Nat → Value} {a x y : Act} {L L' : Nat → Bool} (hx : Fr ops val a L x) (hy : Fr ops val a L' y) (h : ∀ j, j < ops.size → L j = L' j) : x = y := by
 have h1 : x.tmps = y.tmps := Array.ext_getElem? fun t => fr_same hx hy t fun j oj hj _ => h j (lt_of_some hj)
 have h2 : x.defers = y.defers := hx.1.trans hy.1.symm
 cases x; cases y; simp_all
theorem step_same (ok : Ok ops) {val : Nat → Value} {a x y : Act} {L L' : Nat → Bool} {i : Nat} {o : Oper} {v : Value} (hi : ops[i]? = some o) (hx : Fr ops val a L x) (hy : Fr ops val a L' y)
  (h : ∀ j oj t, ops[j]? = some oj → oj.dst = some t → t ∈ o.looksAt ops → L j = L' j) (hs : StepV P ops S x o v) : StepV P ops S y o v := by
 have hev : execOp y.eval o = execOp x.eval o := execOp_congr o (ok.plain i o hi) fun z hz => by
  cases z with
  | tmp t =>
   have := fr_same hx hy t fun j oj hj hd => h j oj t hj hd (List.mem_append_left _ (List.mem_filterMap.2 ⟨.tmp t, by simpa using hz, rfl⟩))
   simp [Act.eval, Array.getD_eq_getD_getElem?, this]
  | _ => rfl
 have hw : Region.wanted o (yielded ops y.tmps) = Region.wanted o (yielded ops x.tmps) := by
  unfold Region.wanted
  cases hg : o.guard with
  | none => rfl
  | some gw =>
   obtain ⟨g, want⟩ := gw
   have : yielded ops y.tmps g = yielded ops x.tmps g := by
    unfold yielded
    cases ht : (ops[g]?).bind (·.dst) with
    | none => rfl
    | some t =>
     have := fr_same hx hy t fun j oj hj hd => h j oj t hj hd (by simp [Oper.looksAt, hg, ht])
     simp [this]
   simp only [this]
 have hsz : y.tmps.size = x.tmps.size := by rw [hx.2.1, hy.2.1]
 rcases hs with ⟨h1, h2⟩ | h1
 ·refine .inl ⟨by rw [hw]; exact h1, fun w hS => ?_⟩
  have := h2 w hS
  unfold Oper.wp at this ⊢
  rw [hev]
  exact upon_same hsz this
 ·exact .inr (by rw [hw]; exact h1)
def cnt (L : Nat → Bool) : Nat → Nat
 | 0 => 0
 | k + 1 => cnt L k + (if L k = true then 0 else 1)
theorem cnt_zero (L : Nat → Bool) : ∀ n, cnt L n = 0 → ∀ i, i < n → L i = true
 | 0, _, i, hi => absurd hi (by omega)
 | n + 1, h, i, hi => by
  simp only [cnt] at h
  by_cases hin : i = n
  ·subst hin
   by_cases hl : L i = true
   ·exact hl
   ·rw [if_neg hl] at h; omega
  ·exact cnt_zero L n (by omega) i (by omega)
theorem cnt_set (L L' : Nat → Bool) (i : Nat) (hi : L i = false) (hL : ∀ j, L' j = (L j || j == i)) : ∀ n, (i < n → cnt L' n + 1 = cnt L n) ∧ (n ≤ i → cnt L' n = cnt L n)
 | 0 => ⟨fun h => absurd h (by omega), fun _ => rfl⟩
 | n + 1 => by
  obtain ⟨h1, h2⟩ := cnt_set L L' i hi hL n
  simp only [cnt, hL n]
  refine ⟨fun h => ?_, fun h => ?_⟩
  ·by_cases hin : i = n
   ·subst hin
    rw [h2 (by omega), hi]
    simp
   ·have := h1 (by omega)
    simp only [show (n == i) = false by simpa using Ne.symm hin, Bool.or_false]
    omega
  ·rw [h2 (by omega)]
   simp only [show (n == i) = false by simp; omega, Bool.or_false]
def waits (ops : Array Oper) : Nat → Nat → Nat → Bool
 | 0, _, _ => false
 | n + 1, j, i => match ops[j]? with
  | none => false
  | some o => o.after.any fun e => Region.binds .any e && (e.on == i || waits ops n e.on i)
def tailOk (ops : Array Oper) (k : Nat) : Bool := (List.range ops.size).all fun j => decide (j < k) || (List.range j).all fun i => waits ops ops.size j i
theorem waits_listed {listed : Array Bool} (hcl : ∀ (i : Nat) (o : Oper), ops[i]? = some o → listed.getD i false = true → ∀ e ∈ o.after, Region.binds .any e = true → listed.getD e.on false = true) :
  ∀ (n j i : Nat), (∀ (o : Oper), ops[j]? = some o → ∀ e ∈ o.after, Region.binds .any e = true → listed.getD e.on false = true) → waits ops n j i = true → listed.getD i false = true
 | 0, j, i, _, h => by simp [waits] at h
 | n + 1, j, i, hj, h => by
  simp only [waits] at h
  split at h
  ·cases h
  ·rename_i o ho
   obtain ⟨e, he, h2⟩ := Array.any_eq_true'.1 h
   simp only [Bool.and_eq_true, Bool.or_eq_true, beq_iff_eq] at h2
   have hl := hj o ho e he h2.1
   rcases h2.2 with h3 | h3
   ·rw [← h3]; exact hl
   ·exact waits_listed hcl n e.on i (fun o' ho' => hcl e.on o' ho' hl) h3
theorem tail_waits {k : Nat} (ht : tailOk ops k = true) {j i : Nat} (hj : j < ops.size) (hk : k ≤ j) (hi : i < j) : waits ops ops.size j i = true := by
 have := List.all_eq_true.1 ht j (List.mem_range.2 hj)
 simp only [Bool.or_eq_true, decide_eq_true_eq] at this
 rcases this with h | h
 ·omega
 ·exact List.all_eq_true.1 h i (List.mem_range.2 hi)
theorem getD_lt {listed : Array Bool} {i : Nat} (h : i < listed.size) (d : Bool) : listed.getD i d = listed.getD i false := by
 simp [Array.getD_eq_getD_getElem?, Array.getElem?_eq_getElem h]
theorem ready_iff {listed : Array Bool} (hsz : listed.size = ops.size) {i : Nat} {o : Oper} (ho : ops[i]? = some o) :
  i ∈ Region.ready .any ops listed ↔ listed.getD i false = false ∧ ∀ e ∈ o.after, Region.binds .any e = true → listed.getD e.on false = true := by
 have hi : i < ops.size := lt_of_some ho
 unfold Region.ready
 rw [List.mem_filter, ho, getD_lt (by omega)]
 simp only [List.mem_range, hi, true_and, Bool.and_eq_true, Bool.not_eq_true', Option.map_some, Option.getD_some]
 rw [Array.all_eq_true_iff_forall_mem]
 refine and_congr Iff.rfl (forall_congr' fun e => forall_congr' fun he => ?_)
 cases Region.binds .any e <;> simp
theorem ready_lt {listed : Array Bool} {i : Nat} (h : i ∈ Region.ready .any ops listed) : i < ops.size := by
 unfold Region.ready at h
 rw [List.mem_filter] at h
 exact List.mem_range.1 h.1
theorem least_ready (ok : Ok ops) {listed : Array Bool} (hsz : listed.size = ops.size) (hr : Region.ready .any ops listed = []) (i : Nat) (hi : i < ops.size) : listed.getD i false = true := by
 induction i using Nat.strongRecOn with
 | ind i ih =>
  cases hl : listed.getD i false with
  | true => rfl
  | false =>
   exfalso
   have ho : ops[i]? = some ops[i] := Array.getElem?_eq_getElem hi
   have hmem := (ready_iff hsz ho).2 ⟨hl, fun e he hbe => by
    have hb := ok.back i _ ho e he hbe
    exact ih e.on hb (by omega)⟩
   rw [hr] at hmem
   cases hmem
theorem set_getD {listed : Array Bool} {i : Nat} (hil : i < listed.size) (j : Nat) : (listed.setIfInBounds i true).getD j false = (listed.getD j false || j == i) := by
 simp only [Array.getD_eq_getD_getElem?, Array.getElem?_setIfInBounds]
 by_cases hij : i = j
 ·subst hij; simp [hil]
 ·simp [hij, Ne.symm hij]
theorem drop_cons {m : Nat} {o : Oper} (ho : ops[m]? = some o) : ops.toList.drop m = o :: ops.toList.drop (m + 1) := by
 have hm : m < ops.toList.length := by simpa using lt_of_some ho
 rw [List.drop_eq_getElem_cons hm]
 congr 1
 have h1 : ops.toList[m]? = some o := by simpa using ho
 rw [List.getElem?_eq_getElem hm] at h1
 exact Option.some.inj h1
theorem any_tail (ok : Ok ops) {k : Nat} (ht : tailOk ops k = true) : ∀ (fuel m : Nat) (listed : Array Bool) (a : Act) (w : World), listed.size = ops.size → (∀ i, i < ops.size → listed.getD i false = decide (i < m)) →
  k ≤ m → m ≤ ops.size → ops.size ≤ fuel + m → wpList P ops Q (ops.toList.drop m) a w → wpAny P .any ops Q fuel listed a w := by
 intro fuel
 induction fuel with
 | zero =>
  intro m listed a w hsz hL hk hm hf h
  obtain rfl : m = ops.size := by omega
  rw [List.drop_eq_nil_of_le (by simp)] at h
  refine ⟨?_, h⟩
  rw [List.eq_nil_iff_forall_not_mem]
  intro i hi
  have hi' := ready_lt hi
  have := ((ready_iff hsz (Array.getElem?_eq_getElem hi')).1 hi).1
  rw [hL i hi'] at this
  simp at this
  omega
 | succ fuel ih =>
  intro m listed a w hsz hL hk hm hf h
  refine ⟨fun hr => ?_, fun i hi => ?_⟩
  ·have hms : m = ops.size := by
    rcases Nat.lt_or_ge m ops.size with h1 | h1
    ·have := least_ready ok hsz hr m h1
     rw [hL m h1] at this
     simp at this
    ·omega
   subst hms
   rw [List.drop_eq_nil_of_le (by simp)] at h
   exact h
  ·have hi' := ready_lt hi
   obtain ⟨h1, h2⟩ := (ready_iff hsz (Array.getElem?_eq_getElem hi')).1 hi
   rw [hL i hi'] at h1
   have hmi : m ≤ i := by simpa using h1
   have him : i = m := by
    rcases Nat.lt_or_ge m i with h3 | h3
    ·exfalso
     have hw := tail_waits ht hi' (by omega) h3
     have hcl : ∀ (j : Nat) (o : Oper), ops[j]? = some o → listed.getD j false = true → ∀ e ∈ o.after, Region.binds .any e = true → listed.getD e.on false = true := fun j o hj hl e he hbe => by
      have hb := ok.back j o hj e he hbe
      have hj' := lt_of_some hj
      rw [hL j hj'] at hl
      rw [hL e.on (by omega)]
      simp at hl ⊢
      omega
     have := waits_listed hcl ops.size i m (fun o ho e he hb => by
      rw [Array.getElem?_eq_getElem hi'] at ho
      cases ho
      exact h2 e he hb) hw
     rw [hL m (by omega)] at this
     simp at this
    ·omega
   subst him
   have ho : ops[i]? = some ops[i] := Array.getElem?_eq_getElem hi'
   rw [drop_cons ho] at h
   have hnext : ∀ a w, wpList P ops Q (ops.toList.drop (i + 1)) a w → wpAny P .any ops Q fuel (listed.setIfInBounds i true) a w := fun a w h' =>
    ih (i + 1) _ a w (by simpa using hsz) (fun j hj => by
     rw [set_getD (by omega), hL j hj, Bool.eq_iff_iff]; simp; omega) (by omega) (by omega) (by omega) h'
   unfold wpOp
   rw [ho]
   simp only
   unfold wpList at h
   split
   ·rename_i hw
    rw [if_pos hw] at h
    exact h.imp (Oper.wp_mono hnext) id
   ·rename_i hw
    rw [if_neg hw] at h
    exact hnext _ _ h
theorem any_det (ok : Ok ops) {k : Nat} (hkn : k ≤ ops.size) (ht : tailOk ops k = true) {val : Nat → Value} {a0 : Act} (hsteps : ∀ i o, i < k → ops[i]? = some o → ∃ x, Fr ops val a0 (fun j => decide (j < i)) x ∧ StepV P ops S x o (val i))
  (hend : ∀ x, Fr ops val a0 (fun j => decide (j < k)) x → ∀ w, S w → wpList P ops Q (ops.toList.drop k) x w) : ∀ (fuel : Nat) (listed : Array Bool) (a : Act) (w : World), listed.size = ops.size →
  cnt (fun i => listed.getD i false) ops.size ≤ fuel → (∀ i o, ops[i]? = some o → listed.getD i false = true → ∀ e ∈ o.after, Region.binds .any e = true → listed.getD e.on false = true) →
  (∀ i, i < ops.size → listed.getD i false = true → i < k) →
  Fr ops val a0 (fun i => listed.getD i false) a → S w → wpAny P .any ops Q fuel listed a w := by
 intro fuel
 induction fuel with
 | zero =>
  intro listed a w hsz hc hcl hlk hf hS
  have hall := cnt_zero _ _ (Nat.le_zero.1 hc)
  have hks : k = ops.size := by
   rcases Nat.lt_or_ge k ops.size with h | h
   ·have := hlk k h (hall k h); omega
   ·omega
  refine any_tail ok ht 0 k listed a w hsz (fun i hi => by rw [hall i hi]; simp; omega) (Nat.le_refl _) hkn (by omega) (hend a (fr_congr hf (fun j hj => ?_) (fun _ _ => rfl)) w hS)
  rw [hall j hj]; simp; omega
 | succ fuel ih =>
  intro listed a w hsz hc hcl hlk hf hS
  by_cases hdone : ∀ i, i < k → listed.getD i false = true
  ·have hL : ∀ i, i < ops.size → listed.getD i false = decide (i < k) := fun i hi => by
    by_cases hik : i < k
    ·rw [hdone i hik]; simp [hik]
    ·have : listed.getD i false ≠ true := fun h => hik (hlk i hi h)
     simp only [Bool.not_eq_true] at this
     rw [this]; simp [hik]
   have hcnt : ops.size ≤ cnt (fun i => listed.getD i false) ops.size + k := by
    have : ∀ n, n ≤ ops.size → n ≤ cnt (fun i => listed.getD i false) n + k := fun n => by
     induction n with
     | zero => intro _; omega
     | succ n ihn =>
      intro hn
      simp only [cnt]
      have := ihn (by omega)
      have hLn := hL n (by omega)
      by_cases hnk : n < k
      ·split <;> omega
      ·rw [if_neg (by rw [hLn]; simp [hnk])]
       omega
    exact this _ (Nat.le_refl _)
   exact any_tail ok ht (fuel + 1) k listed a w hsz hL (Nat.le_refl _) hkn (by omega) (hend a (fr_congr hf (fun j hj => (hL j hj).symm) (fun _ _ => rfl)) w hS)
  refine ⟨fun hr => absurd (fun i hi => least_ready ok hsz hr i (by omega)) hdone, fun i hi => ?_⟩
  have hin : i < ops.size := ready_lt hi
  have hil : i < listed.size := by omega
  obtain ⟨o, ho⟩ : ∃ o, ops[i]? = some o := ⟨_, Array.getElem?_eq_getElem hin⟩
  obtain ⟨hlf, hdeps⟩ := (ready_iff hsz ho).1 hi
  have hik : i < k := by
   rcases Nat.lt_or_ge i k with h | h
   ·exact h
   ·exfalso
    refine hdone fun j hj => ?_
    have hw := tail_waits ht hin h (show j < i by omega)
    exact waits_listed hcl ops.size i j (fun o' ho' e he hb => by
     rw [ho] at ho'
     cases ho'
     exact hdeps e he hb) hw
  have hset : ∀ j, (listed.setIfInBounds i true).getD j false = (listed.getD j false || j == i) := fun j => set_getD hil j
  obtain ⟨x, hfx, hsx⟩ := hsteps i o hik ho
  have hst : StepV P ops S a o (val i) := step_same ok ho hfx hf (fun j oj t hj hd ht => by
   rcases ok.reads i o j oj t ho hj hd ht with ⟨e, he, hb, rfl⟩ | ⟨hne, e, he, hb, hei⟩
   ·rw [hdeps e he hb]
    simpa using ok.back i o ho e he hb
   ·have hlt : i < j := hei ▸ ok.back j oj hj e he hb
    have : listed.getD j false = false := by
     cases hlj : listed.getD j false with
     | false => rfl
     | true =>
      have := hcl j oj hj hlj e he hb
      rw [hei, hlf] at this
      cases this
    rw [this]
    simp; omega) hsx
  have hnext : ∀ w', S w' → wpAny P .any ops Q fuel (listed.setIfInBounds i true) (a.put o.dst (val i)) w' := fun w' hS' => by
   refine ih _ _ _ (by simpa using hsz) ?_ ?_ ?_ ?_ hS'
   ·have := (cnt_set (fun j => listed.getD j false) (fun j => (listed.setIfInBounds i true).getD j false) i hlf hset ops.size).1 hin
    omega
   ·intro j oj hj hlj e he hb
    rw [hset] at hlj ⊢
    rcases Bool.or_eq_true .. ▸ hlj with h | h
    ·rw [hcl j oj hj h e he hb]; rfl
    ·have : j = i := by simpa using h
     subst this
     rw [ho] at hj
     cases hj
     rw [hdeps e he hb]; rfl
   ·intro j hj hlj
    rw [hset] at hlj
    rcases Bool.or_eq_true .. ▸ hlj with h | h
    ·exact hlk j hj h
    ·have : j = i := by simpa using h
     omega
   ·exact fr_put ok ho hf fun j _ => hset j
  unfold wpOp
  rw [ho]
  simp only
  rcases hst with ⟨hw, hrun⟩ | ⟨hw, hv⟩
  ·rw [if_pos hw]
   refine .inl ?_
   have := hrun w hS
   unfold Oper.wp at this ⊢
   exact upon_imp (fun a' w' ⟨ha', hS'⟩ => ha' ▸ hnext w' hS') this
  ·rw [if_neg (by rw [hw]; simp)]
   rw [← hv]
   exact hnext w hS
def SeqW (P : Program) (ops : Array Oper) (S : World → Prop) (d : List Deferred) (R : Array Value → Prop) : List Oper → Array Value → Prop
 | [], t => R t
 | o :: rest, t => ∃ t' : Array Value, (∀ w, S w → wpList P ops (fun e a' w' => e = .normal ∧ a' = { tmps := t', defers := d } ∧ S w') [o] { tmps := t, defers := d } w) ∧ SeqW P ops S d R rest t'
def putVal (dst : Option Tmp) (t : Array Value) : Value := match dst with | none => undef | some d => t.getD d undef
theorem put_putVal {t F : Array Value} {d : List Deferred} {dst : Option Tmp} {u : Value} (h : ({ tmps := t, defers := d } : Act).put dst u = { tmps := F, defers := d }) :
  ({ tmps := F, defers := d } : Act) = ({ tmps := t, defers := d } : Act).put dst (putVal dst F) := by
 cases dst with
 | none => exact h.symm
 | some x =>
  simp only [Act.put, Act.mk.injEq, and_true] at h ⊢
  subst h
  by_cases hd : x < t.size
  ·simp [putVal, Array.getD_eq_getD_getElem?, hd]
  ·have hd' : t.size ≤ x := Nat.le_of_not_lt hd
   rw [Array.setIfInBounds_eq_of_size_le hd', Array.setIfInBounds_eq_of_size_le hd']
theorem upon_some {o : Oper} {t F : Array Value} {d : List Deferred} {r : Result Next} (h : o.upon P { tmps := t, defers := d } (fun a' w' => a' = { tmps := F, defers := d } ∧ S w') NoOut r) :
  ({ tmps := F, defers := d } : Act) = ({ tmps := t, defers := d } : Act).put o.dst (putVal o.dst F) := by
 cases r with
 | ok n w' =>
  cases n <;> simp only [Oper.upon] at h <;>
   first
    | exact put_putVal h.1
    | (obtain ⟨e, w'', fr, he, _⟩ := h []
       cases e <;> first | exact put_putVal he.1 | exact he.elim | exact (noOut_lets he).elim)
    | (obtain ⟨v, w'', hv, _⟩ := h (Frame.enter P 0 #[] .normal) []
       exact put_putVal hv.1)
    | skip
  rename_i x
  exfalso
  have := congrArg (fun a : Act => a.defers.length) h.1
  cases hd : o.dst <;> simp [hd, Act.put] at this
 | halt x w' => cases x <;> simp only [Oper.upon] at h <;> exact h.elim
theorem wpList_one {o : Oper} {t F : Array Value} {d : List Deferred} {w : World} (h : wpList P ops (fun e a' w' => e = .normal ∧ a' = { tmps := F, defers := d } ∧ S w') [o] { tmps := t, defers := d } w) :
  (Region.wanted o (yielded ops t) = true ∧ o.wp P { tmps := t, defers := d } w (fun a' w' => a' = { tmps := F, defers := d } ∧ S w') NoOut) ∨
  (Region.wanted o (yielded ops t) = false ∧ ({ tmps := t, defers := d } : Act).put o.dst undef = { tmps := F, defers := d }) := by
 unfold wpList at h
 split at h
 ·rename_i hw
  refine .inl ⟨hw, ?_⟩
  rcases h with h | h
  ·unfold Oper.wp at h ⊢
   generalize (execOp ({ tmps := t, defers := d } : Act).eval o).run P w = r at *
   cases r with
   | ok n w' =>
    cases n <;> simp only [Oper.upon, wpList] at h ⊢ <;>
     first
      | exact h.2
      | exact Calls.mono h (fun e w'' he => by cases e <;> first | exact he.2 | exact absurd he.1 (by simp) | (obtain ⟨_, _, h1, _⟩ := he; exact absurd h1 (by simp)))
      | exact Rows.mono h (fun _ _ he => he.2)
   | halt x w' => cases x <;> simp only [Oper.upon] at h ⊢ <;> first | exact h.elim | exact absurd h.1 (by simp)
  ·obtain ⟨_, _, _, h1, _⟩ := h
   exact absurd h1 (by simp)
 ·rename_i hw
  simp only [wpList] at h
  exact .inr ⟨by simpa using hw, h.2.1⟩
theorem seqL_of_W {d : List Deferred} {R : Array Value → Prop} {w0 : World} (h0 : S w0) : ∀ (l : List Oper) (t : Array Value), SeqW P ops S d R l t → SeqL P ops S (fun a => ∃ t, a = { tmps := t, defers := d } ∧ R t) l { tmps := t, defers := d }
 | [], t, h => ⟨t, rfl, h⟩
 | o :: rest, t, h => by
  obtain ⟨F, hF, hr⟩ := h
  have hr' := seqL_of_W h0 rest F hr
  have h1 := wpList_one (hF w0 h0)
  cases hw : Region.wanted o (yielded ops t) with
  | true =>
   rw [hw] at h1
   rcases h1 with ⟨_, h1⟩ | ⟨h1, _⟩
   ·have e := upon_some h1
    refine ⟨putVal o.dst F, .inl ⟨hw, fun w hS => ?_⟩, e ▸ hr'⟩
    rcases wpList_one (hF w hS) with ⟨_, h2⟩ | ⟨h2, _⟩
    ·rw [e] at h2; exact h2
    ·rw [hw] at h2; cases h2
   ·cases h1
  | false =>
   rw [hw] at h1
   rcases h1 with ⟨h1, _⟩ | ⟨_, h1⟩
   ·cases h1
   ·exact ⟨undef, .inr ⟨hw, rfl⟩, h1 ▸ hr'⟩
theorem seq_split (ok : Ok ops) {a0 : Act} {R : Act → Prop} : ∀ (l : List Oper) (i : Nat) (val0 : Nat → Value) (a : Act), (∀ j o, l[j]? = some o → ops[i + j]? = some o) → Fr ops val0 a0 (fun j => decide (j < i)) a → SeqL P ops S R l a →
  ∃ val : Nat → Value, (∀ j, j < i → val j = val0 j) ∧ (∀ k o, i ≤ k → k < i + l.length → ops[k]? = some o → ∃ x, Fr ops val a0 (fun j => decide (j < k)) x ∧ StepV P ops S x o (val k)) ∧
   ∃ x, Fr ops val a0 (fun j => decide (j < i + l.length)) x ∧ R x
 | [], i, val0, a, hl, hf, h => ⟨val0, fun _ _ => rfl, fun k o hk ho => absurd ho (by simp; omega), a, hf, h⟩
 | o :: rest, i, val0, a, hl, hf, h => by
  obtain ⟨v, hs, hrest⟩ := h
  have hi : ops[i]? = some o := hl 0 o (by simp)
  let val1 : Nat → Value := fun j => if j = i then v else val0 j
  have hf1 : Fr ops val1 a0 (fun j => decide (j < i)) a := fr_congr hf (fun _ _ => rfl) (fun j hj => by
   have : j < i := by simpa using hj
   show (if j = i then v else val0 j) = _
   rw [if_neg (by omega)])
  have hv1 : val1 i = v := if_pos rfl
  have hf2 : Fr ops val1 a0 (fun j => decide (j < i + 1)) (a.put o.dst v) := by
   rw [← hv1]
   exact fr_put ok hi hf1 fun j _ => by
    rw [Bool.eq_iff_iff]; simp; omega
  obtain ⟨val, hv, hsteps, hend⟩ := seq_split ok rest (i + 1) val1 (a.put o.dst v) (fun j o' hj => by
   have := hl (j + 1) o' (by simpa using hj)
   rw [show i + 1 + j = i + (j + 1) by omega]; exact this) hf2 hrest
  refine ⟨val, fun j hj => ?_, fun k ok' hk hkl hko => ?_, ?_⟩
  ·rw [hv j (by omega)]
   show (if j = i then v else val0 j) = _
   rw [if_neg (by omega)]
  ·by_cases hki : k = i
   ·subst hki
    rw [hi] at hko
    cases hko
    refine ⟨a, fr_congr hf1 (fun _ _ => rfl) (fun j hj => hv j (Nat.lt_succ_of_lt (by simpa using hj))), ?_⟩
    rw [hv k (by omega), hv1]
    exact hs
   ·exact hsteps k ok' (by omega) (by simp only [List.length_cons] at hkl; omega) hko
  ·rw [show i + (o :: rest).length = i + 1 + rest.length by simp only [List.length_cons]; omega]
   exact hend
theorem rep_false (n i : Nat) : (Array.replicate n false).getD i false = false := by
 rw [Array.getD_eq_getD_getElem?, Array.getElem?_replicate]
 split <;> rfl
theorem region_det {id : Nat} {l : List Oper} {t : Array Value} {d : List Deferred} {w : World} (S : World → Prop) (k : Nat) (hm : P.follows .mixedOrders = true) (hok : okOps l.toArray = true) (ht : tailOk l.toArray k = true) (hk : k ≤ l.length) (hS : S w.drew)
  (h : SeqW P l.toArray S d (fun t' => ∀ w', S w' → wpList P l.toArray Q (l.drop k) { tmps := t', defers := d } w') (l.take k) t) : (Code.region id l.toArray true).wp P Q { tmps := t, defers := d } w := by
 have ok := okOps_spec hok
 have hlen : l.toArray.size = l.length := by simp
 refine wp_region_any hm ?_
 obtain ⟨val, _, hsteps, x, hfx, t', rfl, hR⟩ := seq_split ok (l.take k) 0 (fun _ => undef) { tmps := t, defers := d } (fun j o hj => by
  rw [List.getElem?_take] at hj
  split at hj
  ·simpa using hj
  ·cases hj) (fr_start _ _ _ fun i _ => by simp) (seqL_of_W hS _ _ h)
 have hlk : 0 + (l.take k).length = k := by rw [List.length_take]; omega
 rw [hlk] at hsteps hfx
 refine any_det ok (k := k) (by omega) ht (val := val) (fun i o hi ho => hsteps i o (Nat.zero_le _) hi ho) (fun y hy w' hS' => ?_) _ _ _ _ (by simp) ?_ ?_ ?_ ?_ hS
 ·rw [fr_eq hy hfx fun _ _ => rfl]
  exact hR w' hS'
 ·have : ∀ (L : Nat → Bool) n, cnt L n ≤ n := fun L n => by
   induction n with
   | zero => exact Nat.le_refl _
   | succ n ih => simp only [cnt]; split <;> omega
  exact this _ _
 ·intro i o hi hl
  rw [rep_false] at hl
  cases hl
 ·intro i hi hl
  rw [rep_false] at hl
  cases hl
 ·exact fr_start _ _ _ fun i hi => rep_false _ i
def AtEnd (S : World → Prop) (d : List Deferred) (t' : Array Value) : Exit → Act → World → Prop := fun e a' w' => e = .normal ∧ a' = { tmps := t', defers := d } ∧ S w'
theorem AtEnd.mk {d : List Deferred} {t' : Array Value} {w : World} (h : S w) : AtEnd S d t' .normal { tmps := t', defers := d } w := ⟨rfl, rfl, h⟩
theorem seqW_cons {d : List Deferred} {R : Array Value → Prop} {o : Oper} {rest : List Oper} {t t' : Array Value} (h : ∀ w, S w → wpList P ops (AtEnd S d t') [o] { tmps := t, defers := d } w)
  (hr : SeqW P ops S d R rest t') : SeqW P ops S d R (o :: rest) t := ⟨t', h, hr⟩
theorem seqW_nil {d : List Deferred} {R : Array Value → Prop} {t : Array Value} (h : R t) : SeqW P ops S d R [] t := h
theorem region_all {id : Nat} {l : List Oper} {t : Array Value} {d : List Deferred} {w : World} (S : World → Prop) (hm : P.follows .mixedOrders = true) (hok : okOps l.toArray = true) (hS : S w.drew)
  (h : SeqW P l.toArray S d (fun t' => ∀ w', S w' → Q .normal { tmps := t', defers := d } w') l t) : (Code.region id l.toArray true).wp P Q { tmps := t, defers := d } w := by
 have ht : tailOk l.toArray l.length = true := by
  unfold tailOk
  rw [List.all_eq_true]
  intro j hj
  have : j < l.length := by simpa using hj
  simp [this]
 refine region_det S l.length hm hok ht (Nat.le_refl _) hS ?_
 rw [List.take_of_length_le (Nat.le_refl _), List.drop_of_length_le (Nat.le_refl _)]
 exact h
end Go.Det
namespace Go.Mix
open Go Go.Det
variable {P : Program} {ops : Array Oper} {Q : Exit → Act → World → Prop}
def StepG (P : Program) (ops : Array Oper) (S S' : World → Prop) (a : Act) (o : Oper) (v : Value) : Prop :=
 (Region.wanted o (yielded ops a.tmps) = true ∧ ∀ w, S w → o.wp P a w (fun a' w' => a' = a.put o.dst v ∧ S' w') NoOut) ∨
 (Region.wanted o (yielded ops a.tmps) = false ∧ v = undef ∧ ∀ w, S w → S' w)
theorem stepG_same (ok : Ok ops) {S S' : World → Prop} {val : Nat → Value} {a x y : Act} {L L' : Nat → Bool} {i : Nat} {o : Oper} {v : Value} (hi : ops[i]? = some o) (hx : Fr ops val a L x) (hy : Fr ops val a L' y)
  (h : ∀ j oj t, ops[j]? = some oj → oj.dst = some t → t ∈ o.looksAt ops → L j = L' j) (hs : StepG P ops S S' x o v) : StepG P ops S S' y o v := by
 have hev : execOp y.eval o = execOp x.eval o := execOp_congr o (ok.plain i o hi) fun z hz => by
  cases z with
  | tmp t =>
   have := fr_same hx hy t fun j oj hj hd => h j oj t hj hd (List.mem_append_left _ (List.mem_filterMap.2 ⟨.tmp t, by simpa using hz, rfl⟩))
   simp [Act.eval, Array.getD_eq_getD_getElem?, this]
  | _ => rfl
 have hw : Region.wanted o (yielded ops y.tmps) = Region.wanted o (yielded ops x.tmps) := by
  unfold Region.wanted
  cases hg : o.guard with
  | none => rfl
  | some gw =>
   obtain ⟨g, want⟩ := gw
   have : yielded ops y.tmps g = yielded ops x.tmps g := by
    unfold yielded
    cases ht : (ops[g]?).bind (·.dst) with
    | none => rfl
    | some t =>
     have := fr_same hx hy t fun j oj hj hd => h j oj t hj hd (by simp [Oper.looksAt, hg, ht])
     simp [this]
   simp only [this]
 have hsz : y.tmps.size = x.tmps.size := by rw [hx.2.1, hy.2.1]
 rcases hs with ⟨h1, h2⟩ | h1
 ·refine .inl ⟨by rw [hw]; exact h1, fun w hS => ?_⟩
  have := h2 w hS
  unfold Oper.wp at this ⊢
  rw [hev]
  exact upon_same hsz this
 ·exact .inr (by rw [hw]; exact h1)
def tailOk (ops : Array Oper) (k : Nat) (es : List Nat) : Bool := (List.range ops.size).all fun j => decide (j < k) || es.contains j || (List.range j).all fun i => es.contains i || waits ops ops.size j i
theorem tail_waits {k : Nat} {es : List Nat} (ht : tailOk ops k es = true) {j i : Nat} (hj : j < ops.size) (hk : k ≤ j) (he : es.contains j = false) (hi : i < j) (hei : es.contains i = false) : waits ops ops.size j i = true := by
 have := List.all_eq_true.1 ht j (List.mem_range.2 hj)
 simp only [Bool.or_eq_true, decide_eq_true_eq, he, Bool.false_eq_true, or_false] at this
 rcases this with h | h
 ·omega
 ·have := List.all_eq_true.1 h i (List.mem_range.2 hi)
  simpa only [hei, Bool.false_or] using this
def rest (ops : Array Oper) (es : List Nat) : Nat → Nat → List Oper
 | 0, _ => []
 | n + 1, m => match ops[m]? with
  | none => []
  | some o => if es.contains m then rest ops es n (m + 1) else o :: rest ops es n (m + 1)
def esOk (ops : Array Oper) (es : List Nat) : Bool := es.all fun j => match ops[j]? with | some o => o.after.all fun e => !Region.binds .any e || es.contains e.on | none => false
theorem esOk_spec {es : List Nat} (h : esOk ops es = true) {j : Nat} {o : Oper} (hj : ops[j]? = some o) (hc : es.contains j = true) : ∀ e ∈ o.after, Region.binds .any e = true → es.contains e.on = true := fun e he hb => by
 have h1 := List.all_eq_true.1 h j (by simpa using hc)
 simp only [hj] at h1
 have h2 := (Array.all_eq_true_iff_forall_mem.1 h1) e he
 simpa [hb] using h2
theorem any_tail (ok : Ok ops) {k : Nat} {es : List Nat} (hes : esOk ops es = true) (ht : tailOk ops k es = true) : ∀ (n m fuel : Nat) (listed : Array Bool) (a : Act) (w : World), listed.size = ops.size → (∀ i, i < ops.size → listed.getD i false = (decide (i < m) || es.contains i)) →
  k ≤ m → m + n = ops.size → (rest ops es n m).length ≤ fuel → wpList P ops Q (rest ops es n m) a w → wpAny P .any ops Q fuel listed a w := by
 intro n
 induction n with
 | zero =>
  intro m fuel listed a w hsz hL hk hm hf h
  simp only [rest, wpList] at h
  refine wpAny_done ?_ h fuel
  rw [List.eq_nil_iff_forall_not_mem]
  intro i hi
  have hi' := ready_lt hi
  have := ((ready_iff hsz (Array.getElem?_eq_getElem hi')).1 hi).1
  rw [hL i hi'] at this
  simp at this
  omega
 | succ n ih =>
  intro m fuel listed a w hsz hL hk hm hf h
  have hml : m < ops.size := by omega
  have ho : ops[m]? = some ops[m] := Array.getElem?_eq_getElem hml
  cases hem : es.contains m with
  | true =>
   simp only [rest, ho, hem, if_true] at h hf
   refine ih (m + 1) fuel listed a w hsz (fun i hi => ?_) (by omega) (by omega) hf h
   rw [hL i hi, Bool.eq_iff_iff]
   by_cases him : i = m
   ·subst him; simp only [hem, Bool.or_true]
   ·simp only [Bool.or_eq_true, decide_eq_true_eq]
    constructor <;> (rintro (h | h) <;> first | exact .inr h | exact .inl (by omega))
  | false =>
   simp only [rest, ho, hem, Bool.false_eq_true, if_false] at h hf
   cases fuel with
   | zero => simp at hf
   | succ fuel =>
   have hunl : listed.getD m false = false := by rw [hL m hml, hem]; simp
   have hcl : ∀ (j : Nat) (o : Oper), ops[j]? = some o → listed.getD j false = true → ∀ e ∈ o.after, Region.binds .any e = true → listed.getD e.on false = true := fun j o hj hl e he hb => by
    have hb' := ok.back j o hj e he hb
    have hj' := lt_of_some hj
    rw [hL j hj'] at hl
    rw [hL e.on (by omega)]
    rcases Bool.or_eq_true .. ▸ hl with h1 | h1
    ·have : e.on < m := by have := of_decide_eq_true h1; omega
     simp [this]
    ·rw [esOk_spec hes hj h1 e he hb]; simp
   have only : ∀ i, i ∈ Region.ready .any ops listed → i = m := fun i hi => by
    have hi' := ready_lt hi
    obtain ⟨h1, h2⟩ := (ready_iff hsz (Array.getElem?_eq_getElem hi')).1 hi
    rw [hL i hi'] at h1
    simp only [Bool.or_eq_false_iff, decide_eq_false_iff_not] at h1
    rcases Nat.lt_or_ge m i with h3 | h3
    ·exfalso
     have hw := tail_waits ht hi' (by omega) h1.2 h3 hem
     have := waits_listed hcl ops.size i m (fun o ho e he hb => by
      rw [Array.getElem?_eq_getElem hi'] at ho
      cases ho
      exact h2 e he hb) hw
     rw [hunl] at this
     cases this
    ·omega
   refine ⟨fun hr => ?_, fun i hi => ?_⟩
   ·have := least_ready ok hsz hr m hml
    rw [hunl] at this
    cases this
   ·obtain rfl := only i hi
    have hnext : ∀ a w, wpList P ops Q (rest ops es n (i + 1)) a w → wpAny P .any ops Q fuel (listed.setIfInBounds i true) a w := fun a w h' =>
     ih (i + 1) fuel _ a w (by simpa using hsz) (fun j hj => by
      rw [set_getD (by omega), hL j hj, Bool.eq_iff_iff]
      simp only [Bool.or_eq_true, decide_eq_true_eq, beq_iff_eq]
      constructor
      ·rintro ((h1 | h1) | h1)
       ·exact .inl (by omega)
       ·exact .inr h1
       ·exact .inl (by omega)
      ·rintro (h1 | h1)
       ·rcases Nat.lt_or_ge j i with h2 | h2
        ·exact .inl (.inl h2)
        ·exact .inr (by omega)
       ·exact .inl (.inr h1)) (by omega) (by omega) (by simp only [List.length_cons] at hf; omega) h'
    unfold wpOp
    rw [ho]
    simp only
    unfold wpList at h
    split
    ·rename_i hw
     rw [if_pos hw] at h
     exact h.imp (Oper.wp_mono hnext) id
    ·rename_i hw
     rw [if_neg hw] at h
     exact hnext _ _ h
theorem rest_len {es : List Nat} {L : Nat → Bool} : ∀ (n m : Nat), (∀ i, m ≤ i → i < m + n → es.contains i = false → L i = false) → (rest ops es n m).length + cnt L m ≤ cnt L (m + n)
 | 0, m, _ => by simp [rest]
 | n + 1, m, h => by
  have ih := rest_len n (m + 1) fun i hi hin he => h i (by omega) (by omega) he
  rw [show m + 1 + n = m + (n + 1) by omega] at ih
  have hc : cnt L m ≤ cnt L (m + 1) := by simp only [cnt]; omega
  have hm : ∀ n, cnt L m ≤ cnt L (m + n) := fun n => by
   induction n with
   | zero => exact Nat.le_refl _
   | succ n ihn => exact Nat.le_trans ihn (by rw [show m + (n + 1) = (m + n) + 1 by omega]; simp only [cnt]; omega)
  simp only [rest]
  split
  ·simp only [List.length_nil]; have := hm (n + 1); omega
  ·split
   ·omega
   ·rename_i he
    have hl := h m (Nat.le_refl _) (by omega) (by simpa using he)
    have hc1 : cnt L (m + 1) = cnt L m + 1 := by simp only [cnt, hl, Bool.false_eq_true, if_false]
    simp only [List.length_cons]
    omega
theorem any_mix (ok : Ok ops) {S : Bool → World → Prop} {μ k : Nat} {es : List Nat} (hes : esOk ops es = true) (hμ : es.contains μ = false) (hkn : k ≤ ops.size) (ht : tailOk ops k es = true) {val : Nat → Value} {a0 : Act}
  (hsteps : ∀ i o, i < k → es.contains i = false → ops[i]? = some o → ∃ x, Fr ops val a0 (fun j => decide (j < i) || es.contains j) x ∧ (if i = μ then StepG P ops (S false) (S true) x o (val i) else ∀ b, StepG P ops (S b) (S b) x o (val i)))
  (hend : ∀ x, Fr ops val a0 (fun j => decide (j < k) || es.contains j) x → ∀ w, S (decide (μ < k)) w → wpList P ops Q (rest ops es (ops.size - k) k) x w) : ∀ (fuel : Nat) (listed : Array Bool) (a : Act) (w : World), listed.size = ops.size →
  cnt (fun i => listed.getD i false) ops.size ≤ fuel → (∀ i o, ops[i]? = some o → listed.getD i false = true → ∀ e ∈ o.after, Region.binds .any e = true → listed.getD e.on false = true) →
  (∀ i, i < ops.size → listed.getD i false = true → i < k ∨ es.contains i = true) → (∀ i, i < ops.size → es.contains i = true → listed.getD i false = true) →
  Fr ops val a0 (fun i => listed.getD i false) a → S (listed.getD μ false) w → wpAny P .any ops Q fuel listed a w := by
 have fin : ∀ (fuel : Nat) (listed : Array Bool) (a : Act) (w : World), listed.size = ops.size →
  cnt (fun i => listed.getD i false) ops.size ≤ fuel →
  (∀ i, i < ops.size → listed.getD i false = true → i < k ∨ es.contains i = true) → (∀ i, i < ops.size → es.contains i = true → listed.getD i false = true) →
  Fr ops val a0 (fun i => listed.getD i false) a → S (listed.getD μ false) w → (∀ i, i < k → listed.getD i false = true) → wpAny P .any ops Q fuel listed a w := by
  intro fuel listed a w hsz hc hlk hel hf hS hdone
  have hL : ∀ i, i < ops.size → listed.getD i false = (decide (i < k) || es.contains i) := fun i hi => by
   by_cases hik : i < k
   ·rw [hdone i hik]; simp [hik]
   ·cases he : es.contains i with
    | true => rw [hel i hi he]; simp
    | false =>
     have : listed.getD i false ≠ true := fun h => by
      rcases hlk i hi h with h | h
      ·exact hik h
      ·rw [he] at h; cases h
     simp only [Bool.not_eq_true] at this
     rw [this]; simp [hik]
  have hb : listed.getD μ false = decide (μ < k) := by
   rcases Nat.lt_or_ge μ ops.size with h | h
   ·rw [hL μ h, hμ]; simp
   ·rw [Array.getD_eq_getD_getElem?, Array.getElem?_eq_none (by omega)]
    simp; omega
  rw [hb] at hS
  refine any_tail ok hes ht (ops.size - k) k fuel listed a w hsz hL (Nat.le_refl _) (by omega) ?_ (hend a (fr_congr hf (fun j hj => (hL j hj).symm) (fun _ _ => rfl)) w hS)
  have := rest_len (ops := ops) (es := es) (L := fun i => listed.getD i false) (ops.size - k) k fun i hi hin he => by
   show listed.getD i false = false
   rw [hL i (by omega), he]; simp; omega
  rw [show k + (ops.size - k) = ops.size by omega] at this
  omega
 intro fuel
 induction fuel with
 | zero =>
  intro listed a w hsz hc hcl hlk hel hf hS
  have hall := cnt_zero _ _ (Nat.le_zero.1 hc)
  exact fin 0 listed a w hsz hc hlk hel hf hS fun i hi => hall i (by omega)
 | succ fuel ih =>
  intro listed a w hsz hc hcl hlk hel hf hS
  by_cases hdone : ∀ i, i < k → listed.getD i false = true
  ·exact fin _ listed a w hsz hc hlk hel hf hS hdone
  refine ⟨fun hr => absurd (fun i hi => least_ready ok hsz hr i (by omega)) hdone, fun i hi => ?_⟩
  have hin : i < ops.size := ready_lt hi
  have hil : i < listed.size := by omega
  obtain ⟨o, ho⟩ : ∃ o, ops[i]? = some o := ⟨_, Array.getElem?_eq_getElem hin⟩
  obtain ⟨hlf, hdeps⟩ := (ready_iff hsz ho).1 hi
  have hie : es.contains i = false := by
   cases he : es.contains i with
   | false => rfl
   | true => rw [hel i hin he] at hlf; cases hlf
  have hik : i < k := by
   rcases Nat.lt_or_ge i k with h | h
   ·exact h
   ·exfalso
    refine hdone fun j hj => ?_
    cases hej : es.contains j with
    | true => exact hel j (by omega) hej
    | false =>
     have hw := tail_waits ht hin h hie (show j < i by omega) hej
     exact waits_listed hcl ops.size i j (fun o' ho' e he hb => by
      rw [ho] at ho'
      cases ho'
      exact hdeps e he hb) hw
  have hset : ∀ j, (listed.setIfInBounds i true).getD j false = (listed.getD j false || j == i) := fun j => set_getD hil j
  obtain ⟨x, hfx, hsx⟩ := hsteps i o hik hie ho
  have look : ∀ j oj t, ops[j]? = some oj → oj.dst = some t → t ∈ o.looksAt ops → (decide (j < i) || es.contains j) = listed.getD j false := fun j oj t hj hd ht => by
   rcases ok.reads i o j oj t ho hj hd ht with ⟨e, he, hb, rfl⟩ | ⟨hne, e, he, hb, hei⟩
   ·rw [hdeps e he hb]
    have := ok.back i o ho e he hb
    simp [this]
   ·have hlt : i < j := hei ▸ ok.back j oj hj e he hb
    have hlj : listed.getD j false = false := by
     cases hlj : listed.getD j false with
     | false => rfl
     | true =>
      have := hcl j oj hj hlj e he hb
      rw [hei, hlf] at this
      cases this
    rw [hlj]
    have : es.contains j = false := by
     cases hej : es.contains j with
     | false => rfl
     | true => rw [hel j (lt_of_some hj) hej] at hlj; cases hlj
    rw [this]
    simp; omega
  have hnext : ∀ w', S ((listed.setIfInBounds i true).getD μ false) w' → wpAny P .any ops Q fuel (listed.setIfInBounds i true) (a.put o.dst (val i)) w' := fun w' hS' => by
   refine ih _ _ _ (by simpa using hsz) ?_ ?_ ?_ ?_ ?_ hS'
   ·have := (cnt_set (fun j => listed.getD j false) (fun j => (listed.setIfInBounds i true).getD j false) i hlf hset ops.size).1 hin
    omega
   ·intro j oj hj hlj e he hb
    rw [hset] at hlj ⊢
    rcases Bool.or_eq_true .. ▸ hlj with h | h
    ·rw [hcl j oj hj h e he hb]; rfl
    ·have : j = i := by simpa using h
     subst this
     rw [ho] at hj
     cases hj
     rw [hdeps e he hb]; rfl
   ·intro j hj hlj
    rw [hset] at hlj
    rcases Bool.or_eq_true .. ▸ hlj with h | h
    ·exact hlk j hj h
    ·have : j = i := by simpa using h
     exact .inl (by omega)
   ·intro j hj he
    rw [hset, hel j hj he]; rfl
   ·exact fr_put ok ho hf fun j _ => hset j
  have go : ∀ S1 S2 : World → Prop, S1 w → (∀ w', S2 w' → S ((listed.setIfInBounds i true).getD μ false) w') → StepG P ops S1 S2 a o (val i) → wpOp P ops Q i (wpAny P .any ops Q fuel (listed.setIfInBounds i true)) a w := by
   intro S1 S2 h1 h2 hst
   unfold wpOp
   rw [ho]
   simp only
   rcases hst with ⟨hw, hrun⟩ | ⟨hw, hv, hs⟩
   ·rw [if_pos hw]
    refine .inl ?_
    have := hrun w h1
    unfold Oper.wp at this ⊢
    exact upon_imp (fun a' w' ⟨ha', hS'⟩ => ha' ▸ hnext w' (h2 _ hS')) this
   ·rw [if_neg (by rw [hw]; simp)]
    rw [← hv]
    exact hnext w (h2 _ (hs _ h1))
  by_cases hiμ : i = μ
  ·rw [if_pos hiμ] at hsx
   refine go (S false) (S true) ?_ (fun w' h => ?_) (stepG_same ok ho hfx hf look hsx)
   ·rw [← hiμ, hlf] at hS; exact hS
   ·rw [← hiμ, hset]; simpa using h
  ·rw [if_neg hiμ] at hsx
   refine go _ _ hS (fun w' h => ?_) (stepG_same ok ho hfx hf look (hsx _))
   rw [hset, show (μ == i) = false by simpa using Ne.symm hiμ, Bool.or_false]
   exact h
theorem wpList_one2 {S' : World → Prop} {o : Oper} {t F : Array Value} {d : List Deferred} {w : World} (h : wpList P ops (AtEnd S' d F) [o] { tmps := t, defers := d } w) :
  (Region.wanted o (yielded ops t) = true ∧ o.wp P { tmps := t, defers := d } w (fun a' w' => a' = { tmps := F, defers := d } ∧ S' w') NoOut) ∨
  (Region.wanted o (yielded ops t) = false ∧ ({ tmps := t, defers := d } : Act).put o.dst undef = { tmps := F, defers := d } ∧ S' w) := by
 rcases wpList_one (S := S') h with h1 | h1
 ·exact .inl h1
 ·refine .inr ⟨h1.1, h1.2, ?_⟩
  unfold wpList at h
  rw [if_neg (by rw [h1.1]; simp)] at h
  simp only [wpList, AtEnd] at h
  exact h.2.2
def SeqM (P : Program) (ops : Array Oper) (S : Bool → World → Prop) (μ : Nat) (es : List Nat) (d : List Deferred) (R : Array Value → Prop) : Nat → List Oper → Array Value → Prop
 | _, [], t => R t
 | i, o :: l, t => if es.contains i then SeqM P ops S μ es d R (i + 1) l t else
   ∃ t' : Array Value, (if i = μ then ∀ w, S false w → wpList P ops (AtEnd (S true) d t') [o] { tmps := t, defers := d } w
    else ∀ b w, S b w → wpList P ops (AtEnd (S b) d t') [o] { tmps := t, defers := d } w) ∧ SeqM P ops S μ es d R (i + 1) l t'
theorem seqM_nil {S : Bool → World → Prop} {μ i : Nat} {es : List Nat} {d : List Deferred} {R : Array Value → Prop} {t : Array Value} (h : R t) : SeqM P ops S μ es d R i [] t := h
theorem seqM_skip {S : Bool → World → Prop} {μ i : Nat} {es : List Nat} {d : List Deferred} {R : Array Value → Prop} {o : Oper} {l : List Oper} {t : Array Value} (he : es.contains i = true)
  (h : SeqM P ops S μ es d R (i + 1) l t) : SeqM P ops S μ es d R i (o :: l) t := by
 simp only [SeqM, he, if_true]; exact h
theorem seqM_cons {S : Bool → World → Prop} {μ i : Nat} {es : List Nat} {d : List Deferred} {R : Array Value → Prop} {o : Oper} {l : List Oper} {t t' : Array Value} (he : es.contains i = false) (hμ : (i == μ) = false)
  (h : ∀ b w, S b w → wpList P ops (AtEnd (S b) d t') [o] { tmps := t, defers := d } w) (hr : SeqM P ops S μ es d R (i + 1) l t') : SeqM P ops S μ es d R i (o :: l) t := by
 simp only [SeqM, he, Bool.false_eq_true, if_false]
 exact ⟨t', by rw [if_neg (by simpa using hμ)]; exact h, hr⟩
theorem seqM_main {S : Bool → World → Prop} {μ : Nat} {es : List Nat} {d : List Deferred} {R : Array Value → Prop} {o : Oper} {l : List Oper} {t t' : Array Value} (he : es.contains μ = false)
  (h : ∀ w, S false w → wpList P ops (AtEnd (S true) d t') [o] { tmps := t, defers := d } w) (hr : SeqM P ops S μ es d R (μ + 1) l t') : SeqM P ops S μ es d R μ (o :: l) t := by
 simp only [SeqM, he, Bool.false_eq_true, if_false]
 exact ⟨t', by rw [if_pos trivial]; exact h, hr⟩
theorem stepG_of {S S' : World → Prop} {o : Oper} {t F : Array Value} {d : List Deferred} {v : Value} (hv : Region.wanted o (yielded ops t) = false → v = undef)
  (he : ({ tmps := F, defers := d } : Act) = ({ tmps := t, defers := d } : Act).put o.dst v) (h : ∀ w, S w → wpList P ops (AtEnd S' d F) [o] { tmps := t, defers := d } w) : StepG P ops S S' { tmps := t, defers := d } o v := by
 cases hw : Region.wanted o (yielded ops t) with
 | true =>
  refine .inl ⟨hw, fun w hS => ?_⟩
  rcases wpList_one2 (h w hS) with ⟨_, h2⟩ | ⟨h2, _⟩
  ·rw [he] at h2; exact h2
  ·rw [hw] at h2; cases h2
 | false =>
  refine .inr ⟨hw, hv hw, fun w hS => ?_⟩
  rcases wpList_one2 (h w hS) with ⟨h2, _⟩ | ⟨_, _, h2⟩
  ·rw [hw] at h2; cases h2
  ·exact h2
theorem put_of {S' : World → Prop} {o : Oper} {t F : Array Value} {d : List Deferred} {w : World} (h : wpList P ops (AtEnd S' d F) [o] { tmps := t, defers := d } w) :
  ∃ v, (Region.wanted o (yielded ops t) = false → v = undef) ∧ ({ tmps := F, defers := d } : Act) = ({ tmps := t, defers := d } : Act).put o.dst v := by
 rcases wpList_one2 h with ⟨hw, h2⟩ | ⟨hw, h2, _⟩
 ·exact ⟨_, fun h => (by rw [hw] at h; cases h), upon_some (S := S') h2⟩
 ·exact ⟨undef, fun _ => rfl, h2.symm⟩
theorem seqM_vals (ok : Ok ops) {S : Bool → World → Prop} {μ : Nat} {es : List Nat} {d : List Deferred} {R : Array Value → Prop} {a0 : Act} {w0 : World} (h0 : S false w0) : ∀ (l : List Oper) (i : Nat) (val0 : Nat → Value) (t : Array Value),
  (∀ j o, l[j]? = some o → ops[i + j]? = some o) → Fr ops val0 a0 (fun j => decide (j < i) || es.contains j) { tmps := t, defers := d } → SeqM P ops S μ es d R i l t →
  ∃ val : Nat → Value, (∀ j, (j < i ∨ es.contains j = true) → val j = val0 j) ∧ (∀ k o, i ≤ k → k < i + l.length → es.contains k = false → ops[k]? = some o → ∃ x, Fr ops val a0 (fun j => decide (j < k) || es.contains j) x ∧
   (if k = μ then StepG P ops (S false) (S true) x o (val k) else ∀ b, StepG P ops (S b) (S b) x o (val k))) ∧
   ∃ t', Fr ops val a0 (fun j => decide (j < i + l.length) || es.contains j) { tmps := t', defers := d } ∧ R t'
 | [], i, val0, t, hl, hf, h => ⟨val0, fun _ _ => rfl, fun k o hk ho => absurd ho (by simp; omega), t, hf, h⟩
 | o :: rest, i, val0, t, hl, hf, h => by
  have hi : ops[i]? = some o := hl 0 o (by simp)
  have hl' : ∀ j o', rest[j]? = some o' → ops[i + 1 + j]? = some o' := fun j o' hj => by
   have := hl (j + 1) o' (by simpa using hj)
   rw [show i + 1 + j = i + (j + 1) by omega]; exact this
  have hlen : i + (o :: rest).length = i + 1 + rest.length := by simp only [List.length_cons]; omega
  rw [hlen]
  cases he : es.contains i with
  | true =>
   simp only [SeqM, he, if_true] at h
   have hf1 : Fr ops val0 a0 (fun j => decide (j < i + 1) || es.contains j) { tmps := t, defers := d } := fr_congr hf (fun j hj => by
    rw [Bool.eq_iff_iff]
    simp only [Bool.or_eq_true, decide_eq_true_eq]
    constructor
    ·rintro (h1 | h1)
     ·rcases Nat.lt_or_ge j i with h2 | h2
      ·exact .inl h2
      ·obtain rfl : j = i := by omega
       exact .inr he
     ·exact .inr h1
    ·rintro (h1 | h1)
     ·exact .inl (by omega)
     ·exact .inr h1) (fun _ _ => rfl)
   obtain ⟨val, hv, hsteps, hend⟩ := seqM_vals ok h0 rest (i + 1) val0 t hl' hf1 h
   refine ⟨val, fun j hj => hv j (hj.imp (by omega) id), fun k ok' hk hkl hke hko => ?_, hend⟩
   by_cases hki : k = i
   ·subst hki; rw [he] at hke; cases hke
   ·exact hsteps k ok' (by omega) hkl hke hko
  | false =>
   simp only [SeqM, he, Bool.false_eq_true, if_false] at h
   obtain ⟨F, hF, hrest⟩ := h
   have hput : ∃ v, (Region.wanted o (yielded ops t) = false → v = undef) ∧ ({ tmps := F, defers := d } : Act) = ({ tmps := t, defers := d } : Act).put o.dst v := by
    by_cases hiμ : i = μ
    ·rw [if_pos hiμ] at hF; exact put_of (hF w0 h0)
    ·rw [if_neg hiμ] at hF; exact put_of (hF false w0 h0)
   obtain ⟨v, hvu, hput⟩ := hput
   have hst : if i = μ then StepG P ops (S false) (S true) { tmps := t, defers := d } o v else ∀ b, StepG P ops (S b) (S b) { tmps := t, defers := d } o v := by
    by_cases hiμ : i = μ
    ·rw [if_pos hiμ] at hF ⊢
     exact stepG_of hvu hput hF
    ·rw [if_neg hiμ] at hF ⊢
     exact fun b => stepG_of hvu hput (hF b)
   let val1 : Nat → Value := fun j => if j = i then v else val0 j
   have hne : ∀ j, (decide (j < i) || es.contains j) = true → j ≠ i := fun j hj hji => by
    subst hji
    rw [he] at hj
    simp at hj
   have hf1 : Fr ops val1 a0 (fun j => decide (j < i) || es.contains j) { tmps := t, defers := d } := fr_congr hf (fun _ _ => rfl) (fun j hj => by
    show (if j = i then v else val0 j) = _
    rw [if_neg (hne j hj)])
   have hv1 : val1 i = v := if_pos rfl
   have hf2 : Fr ops val1 a0 (fun j => decide (j < i + 1) || es.contains j) { tmps := F, defers := d } := by
    rw [hput, ← hv1]
    exact fr_put ok hi hf1 fun j _ => by
     rw [Bool.eq_iff_iff]
     simp only [Bool.or_eq_true, decide_eq_true_eq, beq_iff_eq]
     constructor
     ·rintro (h1 | h1)
      ·rcases Nat.lt_or_ge j i with h2 | h2
       ·exact .inl (.inl h2)
       ·exact .inr (by omega)
      ·exact .inl (.inr h1)
     ·rintro ((h1 | h1) | h1)
      ·exact .inl (by omega)
      ·exact .inr h1
      ·exact .inl (by omega)
   obtain ⟨val, hv, hsteps, hend⟩ := seqM_vals ok h0 rest (i + 1) val1 F hl' hf2 hrest
   refine ⟨val, fun j hj => ?_, fun k ok' hk hkl hke hko => ?_, hend⟩
   ·rw [hv j (hj.imp (by omega) id)]
    show (if j = i then v else val0 j) = _
    rw [if_neg (hne j (by rcases hj with h1 | h1 <;> rw [Bool.or_eq_true] <;> first | exact .inl (decide_eq_true h1) | exact .inr h1))]
   ·by_cases hki : k = i
    ·subst hki
     rw [hi] at hko
     cases hko
     refine ⟨_, fr_congr hf1 (fun _ _ => rfl) (fun j hj => hv j ?_), ?_⟩
     ·rcases Bool.or_eq_true .. ▸ hj with h1 | h1
      ·exact .inl (Nat.lt_succ_of_lt (of_decide_eq_true h1))
      ·exact .inr h1
     ·rw [hv k (by omega), hv1]
      exact hst
    ·exact hsteps k ok' (by omega) hkl hke hko
def SeqE (P : Program) (ops : Array Oper) (d : List Deferred) (R : Array Value → Prop) : List Nat → Array Value → Prop
 | [], t => R t
 | e :: es, t => ∃ o, ops[e]? = some o ∧ ∃ (v : Value) (t' : Array Value), Yields P ops o v { tmps := t, defers := d } ∧ ({ tmps := t, defers := d } : Act).put o.dst v = { tmps := t', defers := d } ∧ SeqE P ops d R es t'
theorem seqE_nil {d : List Deferred} {R : Array Value → Prop} {t : Array Value} (h : R t) : SeqE P ops d R [] t := h
theorem seqE_cons {d : List Deferred} {R : Array Value → Prop} {e : Nat} {es : List Nat} {t t' : Array Value} (o : Oper) (v : Value) (ho : ops[e]? = some o) (hw : Region.wanted o (yielded ops t) = true)
  (hv : ∀ w, (execOp ({ tmps := t, defers := d } : Act).eval o).run P w = .ok (.value v) w) (ht : ({ tmps := t, defers := d } : Act).put o.dst v = { tmps := t', defers := d }) (hr : SeqE P ops d R es t') : SeqE P ops d R (e :: es) t :=
 ⟨o, ho, v, t', .inl ⟨hw, hv⟩, ht, hr⟩
def takeOk (ops : Array Oper) : List Nat → Array Bool → Bool
 | [], _ => true
 | e :: es, listed => (Region.ready .any ops listed).contains e && Region.free .any ops listed e && takeOk ops es (listed.setIfInBounds e true)
theorem any_take {d : List Deferred} {R : Array Value → Prop} {w : World} {a0 : Act} (ok : Ok ops) (hs : Region.noSelect ops = true) (hQ : ∀ c (a : Act) dst v w, Q (.panic c) (a.put dst v) w → Q (.panic c) a w) :
  ∀ (es : List Nat) (listed : Array Bool) (fuel : Nat) (t : Array Value) (val0 : Nat → Value), listed.size = ops.size → takeOk ops es listed = true → Fr ops val0 a0 (fun j => listed.getD j false) { tmps := t, defers := d } → SeqE P ops d R es t →
   (∀ (t' : Array Value) (val : Nat → Value), Fr ops val a0 (fun j => (es.foldl (fun L e => L.setIfInBounds e true) listed).getD j false) { tmps := t', defers := d } → R t' → wpAny P .any ops Q fuel (es.foldl (fun L e => L.setIfInBounds e true) listed) { tmps := t', defers := d } w) →
   wpAny P .any ops Q (fuel + es.length) listed { tmps := t, defers := d } w
 | [], listed, fuel, t, val0, hsz, htk, hf, h, hk => hk t val0 hf h
 | e :: es, listed, fuel, t, val0, hsz, htk, hf, h, hk => by
  obtain ⟨o, ho, v, t', hy, hp, hr⟩ := h
  simp only [takeOk, Bool.and_eq_true] at htk
  have hrd : e ∈ Region.ready .any ops listed := by simpa using htk.1.1
  have hlf := ((ready_iff hsz ho).1 hrd).1
  have hin := lt_of_some ho
  let val1 : Nat → Value := fun j => if j = e then v else val0 j
  have hf1 : Fr ops val1 a0 (fun j => listed.getD j false) { tmps := t, defers := d } := fr_congr hf (fun _ _ => rfl) (fun j hj => by
   show (if j = e then v else val0 j) = _
   rw [if_neg]
   rintro rfl
   rw [hlf] at hj
   cases hj)
  have hv1 : val1 e = v := if_pos rfl
  refine wpAny_take (fuel := fuel + es.length) ho hs htk.1.2 htk.1.1 (fun c a w => hQ c a _ _ w) hy ?_
  rw [hp]
  refine any_take ok hs hQ es (listed.setIfInBounds e true) fuel t' val1 (by simpa using hsz) htk.2 ?_ hr hk
  rw [← hp, ← hv1]
  exact fr_put ok ho hf1 fun j _ => set_getD (by omega) j
theorem fold_getD {n : Nat} : ∀ (es : List Nat) (L : Array Bool), L.size = n → (∀ e ∈ es, e < n) → (es.foldl (fun L e => L.setIfInBounds e true) L).size = n ∧ ∀ j, (es.foldl (fun L e => L.setIfInBounds e true) L).getD j false = (L.getD j false || es.contains j)
 | [], L, h, _ => ⟨h, fun j => by simp⟩
 | e :: es, L, h, hlt => by
  obtain ⟨h1, h2⟩ := fold_getD es (L.setIfInBounds e true) (by simpa using h) (fun x hx => hlt x (List.mem_cons_of_mem _ hx))
  refine ⟨h1, fun j => ?_⟩
  have he : e < L.size := by have := hlt e (by simp); omega
  rw [List.foldl_cons, h2 j, set_getD he]
  rw [List.contains_cons, Bool.or_assoc]
def mixOk (ops : Array Oper) (μ k : Nat) (es : List Nat) : Bool :=
 okOps ops && esOk ops es && !es.contains μ && tailOk ops k es && decide (k ≤ ops.size) && takeOk ops es (Array.replicate ops.size false) && Region.noSelect ops && decide (cnt (fun j => es.contains j) ops.size + es.length ≤ ops.size)
theorem region_mix {id : Nat} {l : List Oper} {t : Array Value} {d : List Deferred} {w : World} (S : Bool → World → Prop) (μ k : Nat) (es : List Nat) (hm : P.follows .mixedOrders = true) (hok : mixOk l.toArray μ k es = true)
  (hQ0 : ∀ c (a : Act) (x : Tmp) v w, Q (.panic c) (a.put (some x) v) w → Q (.panic c) a w) (hS : S false w.drew)
  (h : SeqE P l.toArray d (fun t' => SeqM P l.toArray S μ es d (fun t'' => ∀ w', S (decide (μ < k)) w' → wpList P l.toArray Q (rest l.toArray es (l.length - k) k) { tmps := t'', defers := d } w') 0 (l.take k) t') es t) :
  (Code.region id l.toArray true).wp P Q { tmps := t, defers := d } w := by
 have hQ : ∀ c (a : Act) dst v w, Q (.panic c) (a.put dst v) w → Q (.panic c) a w := fun c a dst v w h => by
  cases dst with
  | none => exact h
  | some x => exact hQ0 c a x v w h
 simp only [mixOk, Bool.and_eq_true, decide_eq_true_eq, Bool.not_eq_true'] at hok
 obtain ⟨⟨⟨⟨⟨⟨⟨hok, hes⟩, hμ⟩, ht⟩, hk⟩, htk⟩, hns⟩, hcnt⟩ := hok
 have ok := okOps_spec hok
 have hlen : l.toArray.size = l.length := by simp
 have helt : ∀ e ∈ es, e < l.toArray.size := fun e he => by
  have := List.all_eq_true.1 hes e he
  cases ho : l.toArray[e]? with
  | none => rw [ho] at this; simp at this
  | some o => exact lt_of_some ho
 refine wp_region_any hm ?_
 obtain ⟨f, hf⟩ : ∃ f, l.toArray.size = f + es.length := ⟨l.toArray.size - es.length, by omega⟩
 have hfold := fold_getD (n := l.toArray.size) es (Array.replicate l.toArray.size false) (by simp) helt
 have hgd : ∀ j, (es.foldl (fun L e => L.setIfInBounds e true) (Array.replicate l.toArray.size false)).getD j false = es.contains j := fun j => by rw [hfold.2 j, rep_false]; simp
 have main : wpAny P .any l.toArray Q (f + es.length) (Array.replicate l.toArray.size false) { tmps := t, defers := d } { w with drawn := w.drawn + 1 } := by
  refine any_take (R := _) ok hns hQ es _ f t (fun _ => undef) (by simp) htk (fr_start _ _ _ fun i _ => rep_false _ i) h fun t' val0 hfr hR => ?_
  have hfr0 : Fr l.toArray val0 { tmps := t, defers := d } (fun j => decide (j < 0) || es.contains j) { tmps := t', defers := d } := fr_congr hfr (fun j _ => by rw [hgd]; simp) (fun _ _ => rfl)
  obtain ⟨val, hv, hsteps, t'', hfx, hR'⟩ := seqM_vals ok hS (l.take k) 0 val0 t' (fun j o hj => by
   rw [List.getElem?_take] at hj
   split at hj
   ·simpa using hj
   ·cases hj) hfr0 hR
  have hlk : 0 + (l.take k).length = k := by rw [List.length_take]; omega
  rw [hlk] at hsteps hfx
  refine any_mix ok (S := S) (μ := μ) (k := k) (es := es) hes hμ (by omega) ht (val := val) (a0 := { tmps := t, defers := d }) (fun i o hi he ho => hsteps i o (Nat.zero_le _) hi he ho) (fun y hy w' hS' => ?_) _ _ _ _ hfold.1 ?_ ?_ ?_ ?_ ?_ ?_
  ·rw [fr_eq hy hfx fun _ _ => rfl]
   exact hR' w' hS'
  ·rw [show (fun i => (es.foldl (fun L e => L.setIfInBounds e true) (Array.replicate l.toArray.size false)).getD i false) = fun j => es.contains j from funext hgd]
   omega
  ·intro i o hi hl e he hb
   rw [hgd] at hl ⊢
   exact esOk_spec hes hi hl e he hb
  ·intro i hi hl
   rw [hgd] at hl
   exact .inr hl
  ·intro i hi he
   rw [hgd]; exact he
  ·exact fr_congr hfr (fun _ _ => rfl) (fun j hj => hv j (.inr (by rw [hgd] at hj; exact hj)))
  ·rw [hgd, hμ]; exact hS
 rw [← hf] at main
 exact main
theorem rest_drop {es : List Nat} : ∀ (n m : Nat), m + n = ops.size → (∀ e ∈ es, e < m) → rest ops es n m = ops.toList.drop m
 | 0, m, h, _ => by
  rw [List.drop_eq_nil_of_le (by simp; omega)]
  rfl
 | n + 1, m, h, he => by
  have ho : ops[m]? = some ops[m] := Array.getElem?_eq_getElem (by omega)
  have hc : es.contains m = false := by
   cases hc : es.contains m with
   | false => rfl
   | true => have := he m (by simpa using hc); omega
  simp only [rest, ho, hc, Bool.false_eq_true, if_false]
  rw [rest_drop n (m + 1) (by omega) (fun e h => Nat.lt_succ_of_lt (he e h)), drop_cons ho]
theorem region_mix' {id : Nat} {l : List Oper} {t : Array Value} {d : List Deferred} {w : World} (S : Bool → World → Prop) (μ k : Nat) (es : List Nat) (hm : P.follows .mixedOrders = true) (hok : (mixOk l.toArray μ k es && es.all fun e => decide (e < k)) = true)
  (hQ0 : ∀ c (a : Act) (x : Tmp) v w, Q (.panic c) (a.put (some x) v) w → Q (.panic c) a w) (hS : S false w.drew)
  (h : SeqE P l.toArray d (fun t' => SeqM P l.toArray S μ es d (fun t'' => ∀ w', S (decide (μ < k)) w' → wpList P l.toArray Q (l.drop k) { tmps := t'', defers := d } w') 0 (l.take k) t') es t) :
  (Code.region id l.toArray true).wp P Q { tmps := t, defers := d } w := by
 simp only [Bool.and_eq_true, List.all_eq_true, decide_eq_true_eq] at hok
 have hk : k ≤ l.length := by
  have := hok.1
  simp only [mixOk, Bool.and_eq_true, decide_eq_true_eq] at this
  have := this.1.1.1.2
  simpa using this
 refine region_mix S μ k es hm hok.1 hQ0 hS ?_
 rw [rest_drop (ops := l.toArray) (l.length - k) k (by simp; omega) hok.2]
 exact h
end Go.Mix
namespace Go.Proofs.Ytbddfnmhhmkfkaa.Pr
open Go.RowKit Go.Proofs.YtbddfnmhhmkfkaaW.PrintWords Go.Proofs.YtbddfnmhhmkfkaaW.PrintLast Go.Proofs.YtbddfnmhhmkfkaaW.PrintMore
attribute [local go_sem] max2_int min2_int max_two min_two max_three min_three max_four min_four
def best_flow_hyphen.f (l0_0 : List (S43)) (a0_1 : Int) (l0_2 : List (S85)) (a1 : Int) : Option (Bool) := if a1 ≥ 0 then (if a1 < (l0_0.length : Int) then (if 0 ≤ a1 then (some (((rd_T43 l0_0 a1).f0) == 3)) else (none)) else (some false)) else (some false)
set_option maxHeartbeats 8000000 in
set_option maxRecDepth 100000 in
theorem best_flow_hyphen.calls (A0_0 : Option Addr) (c0_0 : Nat) (l0_0 : List (S43)) (a0_1 : Int) (A0_2 : Option Addr) (c0_2 : Nat) (l0_2 : List (S85)) (a1 : Int) (r : Bool) (w : World) (hr0_0 : Kd.C k43 w A0_0 l0_0.length l0_0) (hc0_0 : l0_0.length ≤ c0_0) (hr0_2 : Kd.C k85 w A0_2 l0_2.length l0_2) (hc0_2 : l0_2.length ≤ c0_2) (h : best_flow_hyphen.f l0_0 a0_1 l0_2 a1 = some r) :
  Calls Try.prog 75 #[.agg #[.slice A0_0 l0_0.length c0_0, .int .i64 a0_1, .slice A0_2 l0_2.length c0_2], .int .i64 a1] w fun e w' => e = .returned (.bool r) ∧ Below w.heap.size w w' := by
 have hu67 := Try.underlying67
 have HR0_0 := Aside0.mk hr0_0
 have HC0_0 := Aside0.mk hc0_0
 clear hr0_0 hc0_0
 have HR0_2 := Aside0.mk hr0_2
 have HC0_2 := Aside0.mk hc0_2
 clear hr0_2 hc0_2
 have HB := Aside0.mk (Below.refl w.heap.size w)
 have H : (if a1 ≥ 0 then (if a1 < (l0_0.length : Int) then (if 0 ≤ a1 then (some (((rd_T43 l0_0 a1).f0) == 3)) else (none)) else (some false)) else (some false)) = some r := h
 clear h
 by_cases c3 : a1 ≥ 0
 ·rw [if_pos c3] at H
  have c3b0 : decide (0 ≤ a1) = true := decide_eq_true c3
  clear c3
  by_cases c4 : a1 < (l0_0.length : Int)
  ·rw [if_pos c4] at H
   have c4b0 : decide (a1 < (l0_0.length : Int)) = true := decide_eq_true c4
   clear c4
   by_cases c5 : 0 ≤ a1
   ·rw [if_pos c5] at H
    have c5b0 : decide (0 ≤ a1) = true := decide_eq_true c5
    clear c5
    obtain rfl := Option.some.inj H
    go_enter Try.func75, Try.ntmps75
    go_wp2_with (first | ((with_reducible refine gate_dst (N := 2) rfl ?_); (try (refine gate_guard (by rfl) ?_; dsimp only)); refine box_event ?hg (N := 2) ?hd (cs := #[.slice A0_0 l0_0.length c0_0, .int .i64 a0_1, .slice A0_2 l0_2.length c0_2]) (t := 67) ?hr ?_; (case hd => rfl); (case hg => rfl); (case hr => first | (go_simp; done) | (go_simp; rfl)); intro gb105 hg w6 hbox hb; have n0_ := Aside0.mk (below_step (by repeat (first | (with_reducible first | exact HB.out | apply below_alloc | apply pw_below_drewN | apply below_drew1) | exact HB.out)) hb); have n1_ := Aside0.mk (hbox); have n2_ := Aside0.mk ((by rw [hg]; exact (below_size (by repeat (first | (with_reducible first | exact HB.out | apply below_alloc | apply pw_below_drewN | apply below_drew1) | exact HB.out))) : w.heap.size ≤ gb105)); have n3_ := Aside0.mk ((by rw [hg]; exact (below_size (by repeat (first | (with_reducible first | exact HB.out | apply below_alloc | apply pw_below_drewN | apply below_drew1) | exact HB.out))) : w.heap.size ≤ gb105)); clear HB; have HB := n0_; have BK105 := n1_; have GW105 := n2_; have GE105 := n3_; clear n0_ n1_ n2_ n3_; clear hb hbox hg; have hcz7_0 : w6.cell? ⟨gb105, 0, none⟩ = some (.slice A0_0 l0_0.length c0_0) := (blk_cell BK105.out 0).trans rfl; have hcz7_1 : w6.cell? ⟨gb105, 1, none⟩ = some (.int .i64 a0_1) := (blk_cell BK105.out 1).trans rfl; have hcz7_2 : w6.cell? ⟨gb105, 2, none⟩ = some (.slice A0_2 l0_2.length c0_2) := (blk_cell BK105.out 2).trans rfl; have hfz7_0 := blk_frozen BK105.out 0; have hfz7_1 := blk_frozen BK105.out 1; have hfz7_2 := blk_frozen BK105.out 2; have p106 : 0 ≤ (a1 : Int) := of_decide_eq_true (by first | (with_reducible assumption) | assumption); have q106 : a1 < (l0_0.length : Int) := of_decide_eq_true (by first | (with_reducible assumption) | assumption); obtain ⟨ad106, e106, hx106_0, hx106_1, hx106_2, hx106_3, hx106_4⟩ := at_T43 HR0_0.out a1 p106 q106; cases e106; replace hx106_0 := (HB.out.cell (World.block_lt_of_cell? w _ hx106_0)).trans hx106_0; replace hx106_1 := (HB.out.cell (World.block_lt_of_cell? w _ hx106_1)).trans hx106_1; replace hx106_2 := (HB.out.cell (World.block_lt_of_cell? w _ hx106_2)).trans hx106_2; replace hx106_3 := (HB.out.cell (World.block_lt_of_cell? w _ hx106_3)).trans hx106_3; replace hx106_4 := (HB.out.cell (World.block_lt_of_cell? w _ hx106_4)).trans hx106_4; replace p106 := eq_true p106; replace q106 := eq_true q106))
    go_ret
    exact ⟨by first | rfl | (simp [errW_none, errW_some] <;> rfl) | (simp [*, errW_none, errW_some] <;> rfl), by repeat (first | (with_reducible first | exact HB.out | apply below_alloc | apply pw_below_drewN | apply below_drew1 | refine below_set ?_ GE105.out) | exact HB.out)⟩
   ·rw [if_neg c5] at H
    exact absurd H (by simp)
  ·rw [if_neg c4] at H
   have c4b0 : decide (a1 < (l0_0.length : Int)) = false := decide_eq_false c4
   clear c4
   obtain rfl := Option.some.inj H
   go_enter Try.func75, Try.ntmps75
   go_wp2_with (first | ((with_reducible refine gate_dst (N := 2) rfl ?_); (try (refine gate_guard (by rfl) ?_; dsimp only)); refine box_event ?hg (N := 2) ?hd (cs := #[.slice A0_0 l0_0.length c0_0, .int .i64 a0_1, .slice A0_2 l0_2.length c0_2]) (t := 67) ?hr ?_; (case hd => rfl); (case hg => rfl); (case hr => first | (go_simp; done) | (go_simp; rfl)); intro gb105 hg w8 hbox hb; have n0_ := Aside0.mk (below_step (by repeat (first | (with_reducible first | exact HB.out | apply below_alloc | apply pw_below_drewN | apply below_drew1) | exact HB.out)) hb); have n1_ := Aside0.mk (hbox); have n2_ := Aside0.mk ((by rw [hg]; exact (below_size (by repeat (first | (with_reducible first | exact HB.out | apply below_alloc | apply pw_below_drewN | apply below_drew1) | exact HB.out))) : w.heap.size ≤ gb105)); have n3_ := Aside0.mk ((by rw [hg]; exact (below_size (by repeat (first | (with_reducible first | exact HB.out | apply below_alloc | apply pw_below_drewN | apply below_drew1) | exact HB.out))) : w.heap.size ≤ gb105)); clear HB; have HB := n0_; have BK105 := n1_; have GW105 := n2_; have GE105 := n3_; clear n0_ n1_ n2_ n3_; clear hb hbox hg; have hcz9_0 : w8.cell? ⟨gb105, 0, none⟩ = some (.slice A0_0 l0_0.length c0_0) := (blk_cell BK105.out 0).trans rfl; have hcz9_1 : w8.cell? ⟨gb105, 1, none⟩ = some (.int .i64 a0_1) := (blk_cell BK105.out 1).trans rfl; have hcz9_2 : w8.cell? ⟨gb105, 2, none⟩ = some (.slice A0_2 l0_2.length c0_2) := (blk_cell BK105.out 2).trans rfl; have hfz9_0 := blk_frozen BK105.out 0; have hfz9_1 := blk_frozen BK105.out 1; have hfz9_2 := blk_frozen BK105.out 2))
   go_ret
   exact ⟨by first | rfl | (simp [errW_none, errW_some] <;> rfl) | (simp [*, errW_none, errW_some] <;> rfl), by repeat (first | (with_reducible first | exact HB.out | apply below_alloc | apply pw_below_drewN | apply below_drew1 | refine below_set ?_ GE105.out) | exact HB.out)⟩
 ·rw [if_neg c3] at H
  have c3b0 : decide (0 ≤ a1) = false := decide_eq_false c3
  clear c3
  obtain rfl := Option.some.inj H
  go_enter Try.func75, Try.ntmps75
  go_wp2_with (first | ((with_reducible refine gate_dst (N := 2) rfl ?_); (try (refine gate_guard (by rfl) ?_; dsimp only)); refine box_event ?hg (N := 2) ?hd (cs := #[.slice A0_0 l0_0.length c0_0, .int .i64 a0_1, .slice A0_2 l0_2.length c0_2]) (t := 67) ?hr ?_; (case hd => rfl); (case hg => rfl); (case hr => first | (go_simp; done) | (go_simp; rfl)); intro gb105 hg w10 hbox hb; have n0_ := Aside0.mk (below_step (by repeat (first | (with_reducible first | exact HB.out | apply below_alloc | apply pw_below_drewN | apply below_drew1) | exact HB.out)) hb); have n1_ := Aside0.mk (hbox); have n2_ := Aside0.mk ((by rw [hg]; exact (below_size (by repeat (first | (with_reducible first | exact HB.out | apply below_alloc | apply pw_below_drewN | apply below_drew1) | exact HB.out))) : w.heap.size ≤ gb105)); have n3_ := Aside0.mk ((by rw [hg]; exact (below_size (by repeat (first | (with_reducible first | exact HB.out | apply below_alloc | apply pw_below_drewN | apply below_drew1) | exact HB.out))) : w.heap.size ≤ gb105)); clear HB; have HB := n0_; have BK105 := n1_; have GW105 := n2_; have GE105 := n3_; clear n0_ n1_ n2_ n3_; clear hb hbox hg))
  go_ret
  exact ⟨by first | rfl | (simp [errW_none, errW_some] <;> rfl) | (simp [*, errW_none, errW_some] <;> rfl), by repeat (first | (with_reducible first | exact HB.out | apply below_alloc | apply pw_below_drewN | apply below_drew1 | refine below_set ?_ GE105.out) | exact HB.out)⟩
end Go.Proofs.Ytbddfnmhhmkfkaa.Pr
namespace Go.Proofs.Ytbddfnmhhmkfkaa.Pr
open Go.RowKit Go.Proofs.YtbddfnmhhmkfkaaW.PrintWords
attribute [local go_sem] Oper.semAt_some
def farP (n : Int) : Bool := decide (n < 0) || decide (2000 < n)
def oddP (x : S43) : Bool := decide (x.f0 < 1) || decide (4 < x.f0) || farP x.f1 || farP x.f2 || farP x.f3
def item (x : S43) : Value := .agg #[.int .i64 x.f0, .int .i64 x.f1, .int .i64 x.f2, .int .i64 x.f3, .int .i64 x.f4]
theorem far_calls (n : Int) (w : World) : Calls Try.prog 50 #[.int .i64 n] w fun e w' => e = .returned (.bool (farP n)) ∧ w' = w := by
 unfold farP
 go_enter Try.func50, Try.ntmps50
 go_wp2
 all_goals (go_ret; simp [*])
set_option maxHeartbeats 4000000 in
theorem odd_calls (x : S43) (B : Nat) (W : World) (hB : B < W.heap.size) (hc : W.cell? ⟨B, 0, none⟩ = some (.func (.func 50) #[] #[])) :
  Calls Try.prog 51 #[item x, .pointer (some ⟨B, 0, none⟩)] W fun e w' => e = .returned (.bool (oddP x)) ∧ Below W.heap.size W w' := by
 obtain ⟨f0, f1, f2, f3, f4⟩ := x
 have hb0 : Below W.heap.size W (W.alloc (.cells #[.int .i64 f0, .int .i64 f1, .int .i64 f2, .int .i64 f3, .int .i64 f4] 43)) := (Below.refl _ W).alloc (Nat.le_refl _) _
 have hc' : (W.alloc (.cells #[.int .i64 f0, .int .i64 f1, .int .i64 f2, .int .i64 f3, .int .i64 f4] 43)).cell? ⟨B, 0, none⟩ = some (.func (.func 50) #[] #[]) := (hb0.cell (p := ⟨B, 0, none⟩) hB).trans hc
 unfold item oddP
 dsimp only
 by_cases h1 : f0 < 1
 ·go_enter Try.func51, Try.ntmps51
  go_wp2
  go_ret
  exact ⟨by simp [h1], hb0⟩
 ·by_cases h2 : 4 < f0
  ·go_enter Try.func51, Try.ntmps51
   go_wp2
   go_ret
   exact ⟨by simp [h1, h2], hb0⟩
  ·have e1 := fun w => far_calls f1 w
   have e2 := fun w => far_calls f2 w
   have e3 := fun w => far_calls f3 w
   generalize farP f1 = b1 at *
   generalize farP f2 = b2 at *
   generalize farP f3 = b3 at *
   have E1 := Lib.hid e1
   have E2 := Lib.hid e2
   have E3 := Lib.hid e3
   clear e1 e2 e3
   have g1 : decide (f0 < 1) = false := decide_eq_false h1
   have g2 : decide (4 < f0) = false := decide_eq_false h2
   rw [g1, g2]
   have HG := Lib.hid (And.intro g1 g2)
   clear g1 g2
   have g3 : 1 ≤ f0 := by omega
   have g4 : f0 ≤ 4 := by omega
   clear h1 h2
   go_enter Try.func51, Try.ntmps51
   go_wp2_with (go_at_call 50; (first | (with_reducible refine (E1.out _).mono ?_) | (with_reducible refine (E2.out _).mono ?_) | (with_reducible refine (E3.out _).mono ?_)); rintro e w1 ⟨rfl, rfl⟩)
   all_goals
    go_ret
    have e1 := HG.out.1
    have e2 := HG.out.2
    exact ⟨by simp [*], hb0⟩
def idxO : List S43 → Int → Int
 | [], _ => -1
 | x :: xs, i => if oddP x then i else idxO xs (i + 1)
set_option maxHeartbeats 2000000 in
theorem indexItem_calls (B : Nat) (A : Option Addr) (c : Nat) (xs : List S43) (w : World) (hx : xs.length ≤ 140737488351232) (hA : Kd.C k43 w A xs.length xs) (hB : B < w.heap.size) (hc : w.cell? ⟨B, 0, none⟩ = some (.func (.func 50) #[] #[])) :
  Calls Try.prog 76 #[.slice A xs.length c, .func (.func 51) #[] #[.pointer (some ⟨B, 0, none⟩)]] w fun e w' => e = .returned (.int .i64 (idxO xs 0)) ∧ Below w.heap.size w w' := by
 have hcW : ∀ W', Below w.heap.size w W' → W'.cell? ⟨B, 0, none⟩ = some (.func (.func 50) #[] #[]) := fun W' hb => (hb.cell (p := ⟨B, 0, none⟩) hB).trans hc
 obtain ⟨n, hn⟩ : ∃ n, xs.length = n := ⟨_, rfl⟩
 have HA := Lib.hid hA
 have HC := Lib.hid hcW
 have hn1 : n ≤ 140737488351232 := by omega
 rw [hn]
 have HN := Lib.hid hn
 clear hn hA hcW hc hx
 go_enter Try.func76, Try.ntmps76
 go_wp2
 go_loopw [8] (fun v wr => ∃ (k : Nat) (rest : List S43), xs.drop k = rest ∧ Hid (idxO xs 0 = idxO rest k) ∧ v = .int .i64 k ∧ k ≤ n ∧ Below w.heap.size w wr) (fun v _ => n - (intOf v).toNat)
 case atStart => exact ⟨0, xs, rfl, Lib.hid rfl, rfl, by omega, Below.refl _ _⟩
 case round =>
  obtain ⟨k, rest, hr, H, rfl, hk, hB2⟩ := hrel
  by_cases hlt : k < n
  ·have hl2 : (k : Int) < (n : Int) := by omega
   obtain ⟨x, rest, rfl⟩ : ∃ x r, rest = x :: r := by
    cases rest with
    | nil =>
     have := congrArg List.length hr
     simp at this
     have := HN.out
     omega
    | cons x r => exact ⟨x, r, rfl⟩
   have hxk : xs[k]? = some x := by
    have := congrArg (fun l => l[0]?) hr
    simpa using this
   have hr' : xs.drop (k + 1) = rest := by
    have := congrArg List.tail hr
    simpa using this
   have HR := Lib.hid hr'
   obtain ⟨ad, e1, q0, q1, q2, q3, q4⟩ := at_T43 (Kd.C_below HA.out hB2) k (by omega) (by have := HN.out; omega)
   cases e1
   have hxx : rd_T43 xs k = x := by
    unfold rd_T43
    rw [Int.toNat_natCast, List.getD_eq_getElem?_getD, hxk]
    rfl
   rw [hxx] at q0 q1 q2 q3 q4
   simp only [Int.toNat_natCast] at q0 q1 q2 q3 q4
   have hcall := odd_calls x B wr (by have := hB2.size; omega) (HC.out wr hB2)
   have hidx : idxO xs 0 = if oddP x then (k : Int) else idxO rest ((k + 1 : Nat) : Int) := by rw [H.out]; rfl
   have HCL := Lib.hid hcall
   have HI := Lib.hid hidx
   clear hr hr' hxk hcall hidx hxx H
   unfold item at HCL
   generalize oddP x = bb at *
   obtain ⟨f0, f1, f2, f3, f4⟩ := x
   go_wp2_with fail
   refine HCL.out.mono ?_
   rintro e w' ⟨rfl, hb'⟩
   clear q0 q1 q2 q3 q4 HCL
   cases bb
   ·go_wp2
    go_roundw
    case rel => exact ⟨k + 1, rest, HR.out, Lib.hid HI.out, by go_num, by omega, hB2.trans (hb'.mono hB2.size)⟩
    case measure => simp [intOf]; omega
   ·go_wp2
    go_ret
    exact ⟨by rw [HI.out]; rfl, hB2.trans (hb'.mono hB2.size)⟩
  ·have hk2 : ¬ (k : Int) < (n : Int) := by omega
   have hnil : rest = [] := by
    rw [← hr]; apply List.drop_eq_nil_of_le; have := HN.out; omega
   subst hnil
   have hi : idxO xs 0 = -1 := H.out
   have HI := Lib.hid hi
   clear hi hr H
   go_wp2
   go_ret
   exact ⟨by rw [HI.out]; rfl, hB2⟩
theorem idxO_lt (xs : List S43) : ∀ i : Int, 0 ≤ i → (decide (0 ≤ idxO xs i) = xs.any oddP) := by
 induction xs with
 | nil => intro i h; rfl
 | cons x xs ih =>
  intro i h
  by_cases hx : oddP x = true
  ·have e : idxO (x :: xs) i = i := if_pos hx
   rw [e, List.any_cons, hx]
   simp [h]
  ·have e : idxO (x :: xs) i = idxO xs (i + 1) := if_neg hx
   rw [e, ih (i + 1) (by omega), List.any_cons]
   simp only [Bool.not_eq_true] at hx
   rw [hx, Bool.false_or]
set_option maxHeartbeats 1000000 in
theorem hasItem_calls (B : Nat) (A : Option Addr) (c : Nat) (xs : List S43) (w : World) (hx : xs.length ≤ 140737488351232) (hA : Kd.C k43 w A xs.length xs) (hB : B < w.heap.size) (hc : w.cell? ⟨B, 0, none⟩ = some (.func (.func 50) #[] #[])) :
  Calls Try.prog 52 #[.slice A xs.length c, .func (.func 51) #[] #[.pointer (some ⟨B, 0, none⟩)]] w fun e w' => e = .returned (.bool (xs.any oddP)) ∧ Below w.heap.size w w' := by
 have h1 := indexItem_calls B A c xs w hx hA hB hc
 have h2 := idxO_lt xs 0 (Int.le_refl _)
 rw [← h2]
 have H1 := Lib.hid h1
 clear h1 h2 hA hc
 generalize idxO xs 0 = i at *
 go_enter Try.func52, Try.ntmps52
 go_wp2_with fail
 refine H1.out.mono ?_
 rintro e w' ⟨rfl, hb'⟩
 go_wp2
 go_ret
 exact ⟨rfl, hb'⟩
def checkP (l : List S43) (w : Int) : Int := if w < 1 ∨ 1000000 < w ∨ 16384 < l.length ∨ l.any oddP = true then 1 else 0
def best_Check.f (l0 : List S43) (a1 : Int) : Option Int := some (checkP l0 a1)
theorem run_store_func {P : Program} {w : World} {a : Addr} {m : Mode} (f : Fn) (b c : Array Value) : (store a (.func f b c) m).run P w = stored P w a (.func f b c) m := run_store P w a _ m rfl
attribute [local go_sem] run_store_func
set_option maxHeartbeats 2000000 in
theorem best_Check.calls (A0 : Option Addr) (c0 : Nat) (l0 : List S43) (a1 : Int) (r : Int) (w : World) (hr0 : Kd.C k43 w A0 l0.length l0) (hc0 : l0.length ≤ c0) (h : best_Check.f l0 a1 = some r) :
  Calls Try.prog 16 #[.slice A0 l0.length c0, .int .i64 a1] w fun e w' => e = .returned (.int .i64 r) ∧ Below w.heap.size w w' := by
 obtain rfl := Option.some.inj h
 clear h
 have hb0 : Below w.heap.size w (w.alloc (.cells #[.func (.func 50) #[] #[]] 81)) := (Below.refl _ w).alloc (Nat.le_refl _) _
 unfold checkP
 by_cases h1 : a1 < 1
 ·rw [if_pos (.inl h1)]
  go_enter Try.func16, Try.ntmps16
  go_wp2
  go_ret
  exact ⟨rfl, hb0⟩
 ·by_cases h2 : 1000000 < a1
  ·rw [if_pos (.inr (.inl h2))]
   go_enter Try.func16, Try.ntmps16
   go_wp2
   go_ret
   exact ⟨rfl, hb0⟩
  ·by_cases h3 : 16384 < l0.length
   ·rw [if_pos (.inr (.inr (.inl h3)))]
    have h3' : (16384 : Int) < (l0.length : Int) := by omega
    go_enter Try.func16, Try.ntmps16
    go_wp2
    go_ret
    exact ⟨rfl, hb0⟩
   ·have h3' : (l0.length : Int) ≤ 16384 := by omega
    have hcall := hasItem_calls w.heap.size A0 c0 l0 (w.alloc (.cells #[.func (.func 50) #[] #[]] 81)) (by omega) (Kd.C_alloc hr0 _) (by simp) (by rw [blk_cell (blk_new w _) 0]; rfl)
    have e0 : (if a1 < 1 ∨ 1000000 < a1 ∨ 16384 < l0.length ∨ l0.any oddP = true then (1 : Int) else 0) = if l0.any oddP = true then 1 else 0 := by
     by_cases h4 : l0.any oddP = true
     ·rw [if_pos h4, if_pos (.inr (.inr (.inr h4)))]
     ·rw [if_neg h4, if_neg (by rintro (h | h | h | h) <;> first | exact h4 h | omega)]
    rw [e0]
    have HC := Lib.hid hcall
    have g1 : 1 ≤ a1 := by omega
    have g2 : a1 ≤ 1000000 := by omega
    clear hcall e0 h1 h2 h3 hr0 hc0
    generalize l0.any oddP = b at *
    go_enter Try.func16, Try.ntmps16
    go_wp2_with fail
    refine HC.out.mono ?_
    rintro e w' ⟨rfl, hb'⟩
    cases b
    ·go_wp2
     go_ret
     exact ⟨rfl, below_step hb0 hb'⟩
    ·go_wp2
     go_ret
     exact ⟨rfl, below_step hb0 hb'⟩
end Go.Proofs.Ytbddfnmhhmkfkaa.Pr
namespace Go.Proofs.Ytbddfnmhhmkfkaa.Pr
open Go.RowKit Go.Proofs.YtbddfnmhhmkfkaaW.PrintWords
theorem bsE {α β : Type} {a : α} {f : α → Option β} {r : Option β} (h : (some a).bind f = r) : ∃ y, y = a ∧ f y = r := ⟨a, rfl, h⟩
theorem blks3 {w : World} {g : Nat} {t : TypeId} {a0 a1 a2 : Value} (h : w.heap[g]? = some (.cells #[a0, a1, a2] t (0, 0))) : w.cell? ⟨g, 0, none⟩ = some a0 ∧ w.cell? ⟨g, 1, none⟩ = some a1 ∧ w.cell? ⟨g, 2, none⟩ = some a2 ∧ w.frozen? ⟨g, 0, none⟩ = false ∧ w.frozen? ⟨g, 1, none⟩ = false ∧ w.frozen? ⟨g, 2, none⟩ = false := ⟨(blk_cell h 0).trans rfl, (blk_cell h 1).trans rfl, (blk_cell h 2).trans rfl, blk_frozen h 0, blk_frozen h 1, blk_frozen h 2⟩
theorem blks5 {w : World} {g : Nat} {t : TypeId} {a0 a1 a2 a3 a4 : Value} (h : w.heap[g]? = some (.cells #[a0, a1, a2, a3, a4] t (0, 0))) : w.cell? ⟨g, 0, none⟩ = some a0 ∧ w.cell? ⟨g, 1, none⟩ = some a1 ∧ w.cell? ⟨g, 2, none⟩ = some a2 ∧ w.cell? ⟨g, 3, none⟩ = some a3 ∧ w.cell? ⟨g, 4, none⟩ = some a4 ∧ w.frozen? ⟨g, 0, none⟩ = false ∧ w.frozen? ⟨g, 1, none⟩ = false ∧ w.frozen? ⟨g, 2, none⟩ = false ∧ w.frozen? ⟨g, 3, none⟩ = false ∧ w.frozen? ⟨g, 4, none⟩ = false := ⟨(blk_cell h 0).trans rfl, (blk_cell h 1).trans rfl, (blk_cell h 2).trans rfl, (blk_cell h 3).trans rfl, (blk_cell h 4).trans rfl, blk_frozen h 0, blk_frozen h 1, blk_frozen h 2, blk_frozen h 3, blk_frozen h 4⟩
end Go.Proofs.Ytbddfnmhhmkfkaa.Pr
