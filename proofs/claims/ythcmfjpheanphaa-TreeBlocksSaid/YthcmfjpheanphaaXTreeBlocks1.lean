/- Texts of this seat, one behind the other. -/
import Derived.Below
import Derived.Deep.Draws
import Derived.Deep.AppendLies
import Derived.Maps.AppendAt
import Derived.OwnWalk
import Derived.Laws.BytesArg
import Derived.Laws.MakeOwn
import Derived.Laws.OwnMore
import Derived.Deep.OwnRows
import Derived.Tactics
import Derived.Lib.ConvBytes
import Derived.Laws.Slices
import Derived.WalkKit
import Derived.KernelRfl
import Derived.RowKit3
import Derived.Deep.LoopGhost
import Derived.Deep.QuietTactic
import Derived.BigQuiet
import Derived.WideLaws
import Derived.Deep.DeepCutAuto
import Derived.Deep.CutBlock
import Derived.Deep.RegionHeld3
import Derived.Laws.Rows
import Derived.Lib.AppendStr
import Derived.ArgAppend
import Derived.Laws.IdiomCopy
import Derived.RowKit
import Derived.OrdersHeld
import Derived.Laws.BitsLemmas
import Derived.Laws.StructEq
import Derived.Test.YthcmfjpheanphaaProg
import Derived.Orders
import Derived.Deep.RegionHeld
set_option linter.unusedVariables false
set_option linter.unusedSimpArgs false
namespace Go.Proofs.YthcmfjpheanphaaW.PrintWords
open Go.RowKit
structure Aside0 (p : Prop) : Prop where mk :: (out : p)
structure Drawn0 (w w' : World) : Prop where mk :: (out : ∃ n, w' = w.drewN n)
theorem Drawn0.refl (w : World) : Drawn0 w w := ⟨⟨0, rfl⟩⟩
theorem Drawn0.step {w w' : World} (h : Drawn0 w w') (n : Nat) : Drawn0 w (w'.drewN n) := by
 obtain ⟨m, rfl⟩ := h
 exact ⟨⟨m + n, World.drewN_drewN ..⟩⟩
theorem Drawn0.grown {w w' : World} (h : Drawn0 w w') : Grown w w' := by
 obtain ⟨n, rfl⟩ := h
 induction n with
 | zero => exact Grown.refl _
 | succ n ih => rw [← World.drew_drewN]; exact Grown.drew ih
theorem Drawn0.below {w w' : World} (h : Drawn0 w w') : Below w.heap.size w w' := by
 obtain ⟨n, rfl⟩ := h
 induction n with
 | zero => exact Below.refl _ _
 | succ n ih => rw [← World.drew_drewN]; exact ih.drew
def rd (xs : List Int) (i : Int) : Int := xs.getD i.toNat 0
def bt (s : ByteArray) (i : Int) : Int := if h : i.toNat < s.size then ((s[i.toNat]'h).toNat : Int) else 0
theorem bt_at (s : ByteArray) (i : Int) : ∀ h : i.toNat < s.size, ((s[i.toNat]'h).toNat : Int) = bt s i := fun h => by simp [bt, h]
theorem bt_range (s : ByteArray) (i : Int) : 0 ≤ bt s i ∧ bt s i ≤ 255 := by
 unfold bt
 split
 ·rename_i h
  have := (s[i.toNat]'h).toNat_lt
  omega
 ·omega
theorem below_alloc {w W : World} (h : Below w.heap.size w W) (o : Obj) : Below w.heap.size w (W.alloc o) := h.alloc h.size o
theorem below_drew {B : Nat} {w W : World} (h : Below B w W) : Below B w W.drew := ⟨h.os, h.tape, h.output, h.size, h.block⟩
theorem pw_below_drewN {B : Nat} {w W : World} (h : Below B w W) (n : Nat) : Below B w (W.drewN n) := ⟨h.os, h.tape, h.output, h.size, h.block⟩
theorem below_then {B : Nat} {w w1 w2 : World} (h : Below B w w1) (hB : B ≤ w1.heap.size) (k : Below w1.heap.size w1 w2) : Below B w w2 :=
 h.trans ⟨k.os, k.tape, k.output, k.size, fun i hi => k.block i (Nat.lt_of_lt_of_le hi hB)⟩
theorem pw_below_grown {B : Nat} {w w1 : World} (h : Below B w w1) (row : Option Nat) (hB : B ≤ w1.heap.size) {w2 : World} (hg : w1.grownBy w2 row) (hr : ∀ k, row = some k → B ≤ k) : Below B w w2 := h.grown hg hB hr
theorem grown_of_below {w w1 : World} (h : Below w.heap.size w w1) (row : Option Nat) : w.grownBy w1 row := ⟨h.os, h.tape, h.output, h.size, fun i hi _ => h.block i hi⟩
theorem pw_cell_below {w w1 : World} (h : Below w.heap.size w w1) {a : Addr} {v : Value} (hc : w.cell? a = some v) : w1.cell? a = some v := (h.cell (World.block_lt_of_cell? w a hc)).trans hc
theorem add_plain (g j : Nat) : (⟨g, 0, none⟩ : Addr).add j = ⟨g, j, none⟩ := by unfold Addr.add; split <;> simp_all
def ReadsInt (w : World) (k : IntKind) (A : Option Addr) (n : Nat) (xs : List Int) : Prop :=
 xs.length = n ∧ n ≤ 9223372036854775807 ∧ (0 < n → ∃ ad, A = some ad ∧ ∀ j, j < n → w.cell? (ad.add j) = some (.int k (xs.getD j 0)))
theorem ReadsInt.at_ {w : World} {k : IntKind} {A : Option Addr} {n : Nat} {xs : List Int} (h : ReadsInt w k A n xs) (i : Int) (h0 : 0 ≤ i) (h1 : i < n) : ∃ ad, A = some ad ∧ w.cell? (ad.add i.toNat) = some (.int k (rd xs i)) := by
 obtain ⟨ad, e, hc⟩ := h.2.2 (by omega)
 exact ⟨ad, e, hc _ (by omega)⟩
theorem ReadsInt.below {w w1 : World} {k : IntKind} {A : Option Addr} {n : Nat} {xs : List Int} (h : ReadsInt w k A n xs) (hb : Below w.heap.size w w1) : ReadsInt w1 k A n xs :=
 ⟨h.1, h.2.1, fun hn => by
  obtain ⟨ad, e, hc⟩ := h.2.2 hn
  exact ⟨ad, e, fun j hj => pw_cell_below hb (hc j hj)⟩⟩
theorem own_nil (W : World) (base : Nat) (e : TypeId) (size : Nat) : W.ownsRow base e size (.slice none 0 0) 0 [] := ⟨by simp, .inl ⟨rfl, rfl⟩⟩
theorem own_base {w : World} {base : Nat} {e : TypeId} {size n : Nat} {v : Value} {xs : List Value} (h : w.ownsRow base e size v n xs) (k : Nat) (hk : v.ownBlock = some k) : base ≤ k := by
 rcases h.2 with ⟨rfl, _⟩ | ⟨g, cap, cur, rfl, hb, _⟩
 ·simp [Value.ownBlock] at hk
 ·have : g = k := by simpa [Value.ownBlock] using hk
  omega
theorem own_lt {w : World} {base : Nat} {e : TypeId} {size n : Nat} {v : Value} {xs : List Value} (h : w.ownsRow base e size v n xs) (k : Nat) (hk : v.ownBlock = some k) : k < w.heap.size := by
 rcases h.2 with ⟨rfl, _⟩ | ⟨g, cap, cur, rfl, hb, hh, _⟩
 ·simp [Value.ownBlock] at hk
 ·have : g = k := by simpa [Value.ownBlock] using hk
  subst this
  exact (Array.getElem?_eq_some_iff.1 hh).1
theorem pw_own_below {w w1 : World} {base : Nat} {e : TypeId} {size n : Nat} {v : Value} {xs : List Value} (h : w.ownsRow base e size v n xs) (hb : Below w.heap.size w w1) : w1.ownsRow base e size v n xs :=
 h.kept (grown_of_below hb none) (by cases v.ownBlock <;> simp)
theorem own_other {w w1 : World} {base : Nat} {e : TypeId} {size n : Nat} {v : Value} {xs : List Value} (h : w.ownsRow base e size v n xs) {row : Option Nat} (hg : w.grownBy w1 row) (hne : v.ownBlock = none ∨ v.ownBlock ≠ row) : w1.ownsRow base e size v n xs := h.kept hg hne
theorem own_type_ne {w : World} {b b' : Nat} {e e' : TypeId} {s s' n n' : Nat} {v v' : Value} {xs xs' : List Value} (h : w.ownsRow b e s v n xs) (h' : w.ownsRow b' e' s' v' n' xs') (hne : e ≠ e') : v.ownBlock = none ∨ v.ownBlock ≠ v'.ownBlock := by
 rcases h.2 with ⟨rfl, _⟩ | ⟨g, cap, cur, rfl, _, hh, _⟩
 ·exact .inl rfl
 ·refine .inr fun hk => ?_
  rcases h'.2 with ⟨rfl, _⟩ | ⟨g', cap', cur', rfl, _, hh', _⟩
  ·simp [Value.ownBlock] at hk
  ·have : g = g' := by simpa [Value.ownBlock] using hk
   subst this
   rw [hh] at hh'
   injection hh' with hh'
   injection hh' with _ ht
   exact hne ht
theorem own_slice {w : World} {base n : Nat} {e : TypeId} {size : Nat} {v : Value} {xs : List Value} (h : w.ownsRow base e size v n xs) : ∃ A c, v = .slice A n c := by
 rcases h.2 with ⟨rfl, rfl⟩ | ⟨g, cap, cur, rfl, _⟩
 ·exact ⟨none, 0, rfl⟩
 ·exact ⟨_, cap, rfl⟩
def LeO {α : Type} (a b : Option α) : Prop := ∀ r, a = some r → b = some r
theorem LeO.refl {α : Type} (a : Option α) : LeO a a := fun _ h => h
theorem LeO.none {α : Type} (b : Option α) : LeO Option.none b := fun _ h => by cases h
theorem LeO.trans {α : Type} {a b c : Option α} (h : LeO a b) (k : LeO b c) : LeO a c := fun r hr => k r (h r hr)
theorem LeO.ite {α : Type} {c : Prop} [Decidable c] {a a' b b' : Option α} (h : LeO a a') (k : LeO b b') : LeO (if c then a else b) (if c then a' else b') := by
 split
 ·exact h
 ·exact k
theorem LeO.bind {α β : Type} {a a' : Option α} {f f' : α → Option β} (h : LeO a a') (k : ∀ x, LeO (f x) (f' x)) : LeO (a.bind f) (a'.bind f') := by
 intro r hr
 obtain ⟨x, hx, hf⟩ := Option.bind_eq_some_iff.1 hr
 exact Option.bind_eq_some_iff.2 ⟨x, h x hx, k x r hf⟩
theorem LeO.map {α β : Type} {a a' : Option α} (f : α → β) (h : LeO a a') : LeO (a.map f) (a'.map f) := by
 intro r hr
 obtain ⟨x, hx, hf⟩ := Option.map_eq_some_iff.1 hr
 exact Option.map_eq_some_iff.2 ⟨x, h x hx, hf⟩
def Reps {α : Type} (R : α → List Value → Prop) (size : Nat) (ps : List α) (cs : List Value) : Prop :=
 cs.length = ps.length * size ∧ ∀ j p, ps[j]? = some p → R p ((cs.drop (j * size)).take size)
theorem Reps.none {α : Type} (R : α → List Value → Prop) (size : Nat) : Reps R size [] [] := ⟨by simp, fun j p h => by simp at h⟩
theorem Reps.snoc {α : Type} {R : α → List Value → Prop} {size : Nat} {ps : List α} {cs c : List Value} {p : α} (h : Reps R size ps cs) (hp : R p c) (hc : c.length = size) : Reps R size (ps ++ [p]) (cs ++ c) := by
 refine ⟨by rw [List.length_append, h.1, hc, List.length_append, List.length_singleton, Nat.add_mul, Nat.one_mul], fun j q hq => ?_⟩
 rcases Nat.lt_or_ge j ps.length with hj | hj
 ·rw [List.getElem?_append_left hj] at hq
  have h1 : j * size + size ≤ cs.length := by rw [h.1, ← Nat.succ_mul]; exact Nat.mul_le_mul_right _ hj
  have h2 := h.2 j q hq
  rw [List.drop_append_of_le_length (by omega), List.take_append_of_le_length (by rw [List.length_drop]; omega)]
  exact h2
 ·have hj' : j = ps.length := by
   have := (List.getElem?_eq_some_iff.1 hq).1
   rw [List.length_append, List.length_singleton] at this
   omega
  subst hj'
  have hq' : p = q := by simpa using hq
  subst hq'
  rw [← h.1, List.drop_left, ← hc, List.take_length]
  exact hp
theorem Reps.imp_ {α : Type} {R R' : α → List Value → Prop} {size : Nat} {ps : List α} {cs : List Value} (h : Reps R size ps cs) (hR : ∀ p c, R p c → R' p c) : Reps R' size ps cs := ⟨h.1, fun j p hj => hR _ _ (h.2 j p hj)⟩
def ReadsRow {α : Type} (R : α → List Value → Prop) (size : Nat) (w : World) (A : Option Addr) (n : Nat) (ps : List α) : Prop :=
 ps.length = n ∧ n ≤ 9223372036854775807 ∧ (0 < n → ∃ ad, A = some ad ∧ ∀ j p, ps[j]? = some p → ∃ c, c.length = size ∧ R p c ∧ ∀ i u, c[i]? = some u → w.cell? (ad.add (j * size + i)) = some u)
theorem ReadsRow.get_ {α : Type} {R : α → List Value → Prop} {size : Nat} {w : World} {A : Option Addr} {n : Nat} {ps : List α} (h : ReadsRow R size w A n ps) (d : α) (i : Int) (h0 : 0 ≤ i) (h1 : i < n) :
  ∃ ad c, A = some ad ∧ c.length = size ∧ R (ps.getD i.toNat d) c ∧ ∀ j u, c[j]? = some u → w.cell? (ad.add (i.toNat * size + j)) = some u := by
 obtain ⟨ad, e, hc⟩ := h.2.2 (by omega)
 have hl : i.toNat < ps.length := by have := h.1; omega
 obtain ⟨c, hs, hr, hcell⟩ := hc i.toNat _ (List.getElem?_eq_getElem hl)
 refine ⟨ad, c, e, hs, ?_, hcell⟩
 rw [List.getD_eq_getElem?_getD, List.getElem?_eq_getElem hl]
 exact hr
theorem ReadsRow.imp_ {α : Type} {R R' : α → List Value → Prop} {size : Nat} {w w1 : World} {A : Option Addr} {n : Nat} {ps : List α} (h : ReadsRow R size w A n ps) (hb : Below w.heap.size w w1) (hR : ∀ p c, R p c → R' p c) : ReadsRow R' size w1 A n ps :=
 ⟨h.1, h.2.1, fun hn => by
  obtain ⟨ad, e, hc⟩ := h.2.2 hn
  refine ⟨ad, e, fun j p hj => ?_⟩
  obtain ⟨c, hs, hr, hcell⟩ := hc j p hj
  exact ⟨c, hs, hR _ _ hr, fun i u hu => pw_cell_below hb (hcell i u hu)⟩⟩
theorem own_reads_row {α : Type} {R : α → List Value → Prop} {w : World} {base n size : Nat} {e : TypeId} {v : Value} {ps : List α} {cs : List Value} (h : w.ownsRow base e size v n cs) (hR : Reps R size ps cs) (hn : ps.length = n) :
  ∃ A c, v = .slice A n c ∧ ReadsRow R size w A n ps := by
 rcases Nat.eq_zero_or_pos n with h0 | h0
 ·rcases h.2 with ⟨rfl, rfl⟩ | ⟨g, cap, cur, rfl, _⟩
  ·exact ⟨none, 0, rfl, hn, by omega, fun hp => absurd hp (by omega)⟩
  ·exact ⟨_, cap, rfl, hn, by omega, fun hp => absurd hp (by omega)⟩
 ·obtain ⟨g, cap, rfl, _, _⟩ := h.form h0
  have hm : n ≤ 9223372036854775807 := by
   rcases h.2 with ⟨_, h1⟩ | ⟨g', cap', cur, he, _, _, h1, h2, _⟩
   ·omega
   ·simp only [maxLen] at h2
    omega
  refine ⟨_, cap, rfl, hn, hm, fun _ => ⟨_, rfl, fun j p hj => ⟨(cs.drop (j * size)).take size, ?_, hR.2 j p hj, fun i u hu => ?_⟩⟩⟩
  ·have hjl := (List.getElem?_eq_some_iff.1 hj).1
   have h1 : j * size + size ≤ cs.length := by rw [hR.1, ← Nat.succ_mul]; exact Nat.mul_le_mul_right _ hjl
   rw [List.length_take, List.length_drop]
   omega
  ·refine h.cells (g := g) rfl _ u ?_
   rw [List.getElem?_take] at hu
   split at hu
   ·rw [List.getElem?_drop] at hu
    exact hu
   ·cases hu
theorem add_field (ad : Addr) (m j : Nat) (hj : 0 < j) : ad.add (m + j) = ⟨(ad.add m).block, (ad.add m).off + j, none⟩ := by
 unfold Addr.add
 by_cases hm : m = 0
 ·subst hm
  simp [Nat.ne_of_gt hj]
 ·simp [hm, Nat.add_assoc]
section
variable {P : Program} {ops : Array Oper} {rest : List Oper} {o : Oper} {a : Act} {Q : Exit → Act → World → Prop}
theorem print_append_cells {w0 W : World} (base : Nat) (hgd : o.guard = none) (s x : Operand) (t e : TypeId) (z : Value) (size bytes : Nat)
  (ho : o.op = .call { callee := .builtin .append, args := #[s, x], argTypes := #[t, t] })
  (ht : P.underlying t = some (.slice e)) (hinfo : (P.info? e).map (fun i => (i.zero, i.size, i.bytes)) = some (some z, size, bytes)) (hz : z.cells.size = size) (hs0 : 0 < size) (hb0 : 0 < bytes)
  (v : Value) (n : Nat) (xs ys : List Value) (hs : a.eval s = v) (hx : a.eval x = .slice (some ⟨W.heap.size, 0, none⟩) 1 1) (hys : ys.length = size) (h1 : ∀ u ∈ ys, u.oneCell' = true)
  (HO : W.ownsRow base e size v n xs) (HB : Below base w0 W) (hbase : base ≤ W.heap.size) (hl : (n + 1) * bytes ≤ 140737488355328)
  (h : ∀ v1 w1, w1.ownsRow base e size v1 (n + 1) (xs ++ ys) → Below base w0 w1 → W.grownBy w1 v.ownBlock → (v1.ownBlock = v.ownBlock ∨ ∃ b, v1.ownBlock = some b ∧ W.heap.size ≤ b) → wpList P ops Q rest (a.put o.dst v1) w1) :
  wpList P ops Q (o :: rest) a (W.alloc (.cells ys.toArray e)) := by
 obtain ⟨i0, hi, hzz⟩ := Option.map_eq_some_iff.1 hinfo
 simp only [Prod.mk.injEq] at hzz
 obtain ⟨hz0, hz1, hz2⟩ := hzz
 have hlen : n + 1 ≤ 140737488355328 := Nat.le_trans (Nat.le_mul_of_pos_right _ hb0) hl
 refine wpList_append_own_at (W.alloc (.cells ys.toArray e)) hgd s x t ho base e i0 z size bytes ht hi hz0 hz1 hz2 hz hs0 v n xs hs (HO.alloc _) ⟨W.heap.size, 0, none⟩ 1 1 ys hx (by rw [hys]; simp)
  (by simpa using World.news_of_block (cs := ys.toArray) (t := e) (fr := (0, 0)) (heap_alloc_new W (.cells ys.toArray e))) h1 (by simp only [maxLen]; omega) hl (by simp; omega) ?_
 intro v1 w1 hown hg _ hat
 refine h v1 w1 hown ((HB.alloc hbase _).grown hg (by simp; omega) (own_base HO)) (World.grownBy.trans (World.grownBy_alloc W _ _) hg) ?_
 rcases hat with hat | hat
 ·exact .inl hat
 ·exact .inr ⟨_, hat, by simp⟩
end
theorem own_ne {w : World} {base : Nat} {e t : TypeId} {size n g : Nat} {v : Value} {xs : List Value} {cs : Array Value} (h : w.ownsRow base e size v n xs) (hg : w.heap[g]? = some (.cells cs t (0, 0))) (hne : e ≠ t) : some g ≠ v.ownBlock := by
 rcases h.2 with ⟨rfl, _⟩ | ⟨g', cap, cur, rfl, _, hh, _⟩
 ·simp [Value.ownBlock]
 ·intro he
  have : g = g' := by simpa [Value.ownBlock] using he
  subst this
  rw [hg] at hh
  injection hh with hh
  injection hh with _ ht
  exact hne ht.symm
theorem own_setCell {w : World} {base : Nat} {e : TypeId} {size n : Nat} {v : Value} {xs : List Value} (h : w.ownsRow base e size v n xs) {p : Addr} (hne : some p.block ≠ v.ownBlock) (u : Value) : (w.setCell p u).ownsRow base e size v n xs := by
 obtain ⟨h1, h2⟩ := h
 refine ⟨h1, ?_⟩
 rcases h2 with h2 | ⟨g, cap, cur, rfl, hg, hh, r⟩
 ·exact .inl h2
 ·exact .inr ⟨g, cap, cur, rfl, hg, by rw [Below.heap_setCell _ _ _ _ (fun e => hne (by rw [e]; rfl))]; exact hh, r⟩
theorem blk_set {w : World} {g : Nat} {t : TypeId} {cs : Array Value} (h : w.heap[g]? = some (.cells cs t (0, 0))) (i : Nat) (u : Value) : (w.setCell ⟨g, i, none⟩ u).heap[g]? = some (.cells (cs.setIfInBounds i u) t (0, 0)) := by
 simp [World.setCell, Array.getElem?_modify, h]
theorem blk_far {w : World} {g : Nat} {t : TypeId} {cs : Array Value} (h : w.heap[g]? = some (.cells cs t (0, 0))) {p : Addr} (hp : g ≠ p.block) (u : Value) : (w.setCell p u).heap[g]? = some (.cells cs t (0, 0)) := (Below.heap_setCell w p u g hp).trans h
theorem blk_lt {w : World} {g : Nat} {o : Obj} (h : w.heap[g]? = some o) : g < w.heap.size := (Array.getElem?_eq_some_iff.1 h).1
theorem blk_cell {w : World} {g : Nat} {t : TypeId} {cs : Array Value} (h : w.heap[g]? = some (.cells cs t (0, 0))) (i : Nat) : w.cell? ⟨g, i, none⟩ = cs[i]? := cell_of_row w g i cs t (0, 0) h
theorem blk_frozen {w : World} {g : Nat} {t : TypeId} {cs : Array Value} (h : w.heap[g]? = some (.cells cs t (0, 0))) (i : Nat) : w.frozen? ⟨g, i, none⟩ = false := by simp [World.frozen?, h]
theorem blk_grown {w w1 : World} {g : Nat} {o : Obj} {row : Option Nat} (h : w.heap[g]? = some o) (hg : w.grownBy w1 row) (hne : some g ≠ row) : w1.heap[g]? = some o := (hg.block g (blk_lt h) hne).trans h
theorem blk_ne {w : World} {g g' : Nat} {t t' : TypeId} {cs cs' : Array Value} (h : w.heap[g]? = some (.cells cs t (0, 0))) (h' : w.heap[g']? = some (.cells cs' t' (0, 0))) (hne : t ≠ t') : g ≠ g' := by
 rintro rfl
 rw [h] at h'
 injection h' with h'
 injection h' with _ ht
 exact hne ht
def KeepBut (w w' : World) (g : Nat) (row : Option Nat) : Prop := w.heap.size ≤ w'.heap.size ∧ ∀ i, i < w.heap.size → i ≠ g → some i ≠ row → w'.heap[i]? = w.heap[i]?
theorem KeepBut.refl (w : World) (g : Nat) (row : Option Nat) : KeepBut w w g row := ⟨Nat.le_refl _, fun _ _ _ _ => rfl⟩
theorem KeepBut.trans {w w1 w2 : World} {g : Nat} {row row1 : Option Nat} (h : KeepBut w w1 g row) (k : KeepBut w1 w2 g row1) (hr : row1 = row ∨ ∃ b, row1 = some b ∧ w.heap.size ≤ b) : KeepBut w w2 g row :=
 ⟨Nat.le_trans h.1 k.1, fun i hi hg hn => by
  refine (k.2 i (Nat.lt_of_lt_of_le hi h.1) hg ?_).trans (h.2 i hi hg hn)
  rcases hr with rfl | ⟨b, rfl, hb⟩
  ·exact hn
  ·intro e
   injection e with e
   omega⟩
theorem KeepBut.blk {w w1 : World} {g g' : Nat} {row : Option Nat} {o : Obj} (h : KeepBut w w1 g row) (hb : w.heap[g']? = some o) (hg : g' ≠ g) (hr : some g' ≠ row) : w1.heap[g']? = some o := (h.2 g' (blk_lt hb) hg hr).trans hb
theorem KeepBut.own {w w1 : World} {g : Nat} {row : Option Nat} {base : Nat} {e : TypeId} {size n : Nat} {v : Value} {xs : List Value} (h : KeepBut w w1 g row) (ho : w.ownsRow base e size v n xs) (hg : v.ownBlock ≠ some g) (hr : v.ownBlock = none ∨ v.ownBlock ≠ row) : w1.ownsRow base e size v n xs := by
 obtain ⟨h1, h2⟩ := ho
 refine ⟨h1, ?_⟩
 rcases h2 with h2 | ⟨b, cap, cur, rfl, hb, hh, r⟩
 ·exact .inl h2
 ·refine .inr ⟨b, cap, cur, rfl, hb, h.blk hh ?_ ?_, r⟩
  ·intro e
   exact hg (by rw [← e]; rfl)
  ·rcases hr with hr | hr
   ·simp [Value.ownBlock] at hr
   ·exact hr
def Ev {α : Type} (g : Nat → Option α) (r : α) : Prop := ∃ K, ∀ k, K ≤ k → g k = some r
theorem Ev.bind {α β : Type} {g : Nat → Option α} {f : Nat → α → Option β} {a : α} {r : β} (h : Ev g a) (k : Ev (fun n => f n a) r) : Ev (fun n => (g n).bind (f n)) r := by
 obtain ⟨K, h⟩ := h
 obtain ⟨K', k⟩ := k
 refine ⟨max K K', fun n hn => ?_⟩
 have h1 := h n (by omega)
 have h2 := k n (by omega)
 simp only [h1, Option.bind_some]
 exact h2
theorem Ev.congr {α : Type} {g f : Nat → Option α} {r : α} (h : ∀ k, g k = f k) (k : Ev f r) : Ev g r := by
 obtain ⟨K, k⟩ := k
 exact ⟨K, fun n hn => (h n).trans (k n hn)⟩
theorem own_weaken {w : World} {base base' : Nat} {e : TypeId} {size n : Nat} {v : Value} {xs : List Value} (h : w.ownsRow base e size v n xs) (hb : base' ≤ base) : w.ownsRow base' e size v n xs := by
 obtain ⟨h1, h2⟩ := h
 refine ⟨h1, ?_⟩
 rcases h2 with h2 | ⟨g, cap, cur, rfl, hg, r⟩
 ·exact .inl h2
 ·exact .inr ⟨g, cap, cur, rfl, Nat.le_trans hb hg, r⟩
section
variable {α : Type} {enc : α → Value} {d : α}
def rdOf (d : α) (xs : List α) (i : Int) : α := xs.getD i.toNat d
def ReadsOf (enc : α → Value) (d : α) (w : World) (A : Option Addr) (n : Nat) (xs : List α) : Prop :=
 xs.length = n ∧ n ≤ 9223372036854775807 ∧ (0 < n → ∃ ad, A = some ad ∧ ∀ j, j < n → w.cell? (ad.add j) = some (enc (xs.getD j d)))
theorem ReadsOf.at_ {w : World} {A : Option Addr} {n : Nat} {xs : List α} (h : ReadsOf enc d w A n xs) (i : Int) (h0 : 0 ≤ i) (h1 : i < n) : ∃ ad, A = some ad ∧ w.cell? (ad.add i.toNat) = some (enc (rdOf d xs i)) := by
 obtain ⟨ad, e, hc⟩ := h.2.2 (by omega)
 exact ⟨ad, e, hc _ (by omega)⟩
theorem ReadsOf.below {w w1 : World} {A : Option Addr} {n : Nat} {xs : List α} (h : ReadsOf enc d w A n xs) (hb : Below w.heap.size w w1) : ReadsOf enc d w1 A n xs :=
 ⟨h.1, h.2.1, fun hn => by
  obtain ⟨ad, e, hc⟩ := h.2.2 hn
  exact ⟨ad, e, fun j hj => pw_cell_below hb (hc j hj)⟩⟩
end
theorem blk_alloc {w : World} {g : Nat} {o : Obj} (h : w.heap[g]? = some o) (o' : Obj) : (w.alloc o').heap[g]? = some o := (Below.heap_alloc w o' g (blk_lt h)).trans h
theorem blk_below {w w1 : World} {g : Nat} {o : Obj} (h : w.heap[g]? = some o) (hb : Below w.heap.size w w1) : w1.heap[g]? = some o := (hb.block g (blk_lt h)).trans h
theorem blk_new (w : World) (o : Obj) : (w.alloc o).heap[w.heap.size]? = some o := heap_alloc_new w o
theorem own_le {w : World} {base n m c size : Nat} {e : TypeId} {A : Option Addr} {xs : List Value} (h : w.ownsRow base e size (.slice A m c) n xs) : m ≤ c := by
 rcases h.2 with ⟨he, _⟩ | ⟨g, cap, cur, he, _, _, hnc, _⟩
 ·injection he with _ h2 h3
  omega
 ·injection he with _ h2 h3
  omega
def OwnRow {α : Type} (R : α → List Value → Prop) (e : TypeId) (size : Nat) (w : World) (base : Nat) (v : Value) (ps : List α) : Prop :=
 ∃ inner, w.ownsRow base e size v ps.length inner ∧ Reps R size ps inner
section
variable {α : Type} {R R' : α → List Value → Prop} {e : TypeId} {size : Nat} {w w1 : World} {base : Nat} {v : Value} {ps : List α}
theorem OwnRow.none_ (R : α → List Value → Prop) (e : TypeId) (size : Nat) (w : World) (base : Nat) : OwnRow R e size w base (.slice none 0 0) [] := ⟨[], own_nil _ _ _ _, Reps.none _ _⟩
theorem OwnRow.imp_ (h : OwnRow R e size w base v ps) (hR : ∀ p c, R p c → R' p c) : OwnRow R' e size w base v ps := by
 obtain ⟨inner, ho, hr⟩ := h
 exact ⟨inner, ho, hr.imp_ hR⟩
theorem OwnRow.below (h : OwnRow R e size w base v ps) (hb : Below w.heap.size w w1) : OwnRow R e size w1 base v ps := by
 obtain ⟨inner, ho, hr⟩ := h
 exact ⟨inner, pw_own_below ho hb, hr⟩
theorem OwnRow.other (h : OwnRow R e size w base v ps) {row : Option Nat} (hg : w.grownBy w1 row) (hne : v.ownBlock = none ∨ v.ownBlock ≠ row) : OwnRow R e size w1 base v ps := by
 obtain ⟨inner, ho, hr⟩ := h
 exact ⟨inner, own_other ho hg hne, hr⟩
theorem OwnRow.reads (h : OwnRow R e size w base v ps) : ∃ A c, v = .slice A ps.length c ∧ ps.length ≤ c ∧ ReadsRow R size w A ps.length ps := by
 obtain ⟨inner, ho, hr⟩ := h
 obtain ⟨A, c, rfl, hrow⟩ := own_reads_row ho hr rfl
 exact ⟨A, c, rfl, own_le ho, hrow⟩
theorem OwnRow.lit (W : World) (base : Nat) {inner : List Value} (hr : Reps R size ps inner) (hb : base ≤ W.heap.size) (hm : ps.length ≤ 9223372036854775807) :
  OwnRow R e size (W.alloc (.cells inner.toArray e)) base (.slice (some ⟨W.heap.size, 0, none⟩) ps.length ps.length) ps := by
 have h := World.ownsRow_lit (base := base) (e := e) (size := size) W inner.toArray ps.length hb (by simpa [maxLen] using hm) (by simpa using hr.1)
 exact ⟨inner, by simpa using h, hr⟩
end
section
variable {P : Program} {ops : Array Oper} {rest : List Oper} {o : Oper} {a : Act} {Q : Exit → Act → World → Prop} {α : Type} {R : α → List Value → Prop}
theorem OwnRow.append {w0 W : World} (base : Nat) (hgd : o.guard = none) (s x : Operand) (t e : TypeId) (z : Value) (size bytes : Nat)
  (ho : o.op = .call { callee := .builtin .append, args := #[s, x], argTypes := #[t, t] })
  (ht : P.underlying t = some (.slice e)) (hinfo : (P.info? e).map (fun i => (i.zero, i.size, i.bytes)) = some (some z, size, bytes)) (hz : z.cells.size = size) (hs0 : 0 < size) (hb0 : 0 < bytes)
  (v : Value) (ps : List α) (p : α) (cs : List Value) (hs : a.eval s = v) (hx : a.eval x = .slice (some ⟨W.heap.size, 0, none⟩) 1 1) (hp : R p cs) (hcs : cs.length = size) (h1 : ∀ u ∈ cs, u.oneCell' = true)
  (HO : OwnRow R e size W base v ps) (HB : Below base w0 W) (hbase : base ≤ W.heap.size) (hl : (ps.length + 1) * bytes ≤ 140737488355328)
  (h : ∀ v1 w1, OwnRow R e size w1 base v1 (ps ++ [p]) → Below base w0 w1 → W.grownBy w1 v.ownBlock → (v1.ownBlock = v.ownBlock ∨ ∃ b, v1.ownBlock = some b ∧ W.heap.size ≤ b) → wpList P ops Q rest (a.put o.dst v1) w1) :
  wpList P ops Q (o :: rest) a (W.alloc (.cells cs.toArray e)) := by
 obtain ⟨inner, hown, hr⟩ := HO
 refine print_append_cells base hgd s x t e z size bytes ho ht hinfo hz hs0 hb0 v ps.length inner cs hs hx hcs h1 hown HB hbase hl ?_
 intro v1 w1 hown1 hb1 hg1 hat1
 exact h v1 w1 ⟨inner ++ cs, by rw [List.length_append, List.length_singleton]; exact hown1, hr.snoc hp hcs⟩ hb1 hg1 hat1
end
structure Kd (α : Type) where
 sz : Nat
 E : List Nat
 K : World → α → List Value → Prop
 M : World → Nat → (Nat → Prop) → α → List Value → Prop
 K_len : ∀ {w x cs}, K w x cs → cs.length = sz
 K_one : ∀ {w x cs}, K w x cs → ∀ u ∈ cs, u.oneCell' = true
 K_below : ∀ {w w1 : World} {x cs}, Below w.heap.size w w1 → K w x cs → K w1 x cs
 K_of_M : ∀ {w base ok x cs}, M w base ok x cs → K w x cs
 M_mono : ∀ {w base ok ok' x cs}, (∀ k, ok k → ok' k) → M w base ok x cs → M w base ok' x cs
 M_bound : ∀ {w : World} {base ok x cs}, M w base ok x cs → M w base (fun k => ok k ∧ base ≤ k ∧ k < w.heap.size ∧ ∃ q, q ∈ E ∧ ∃ cells, w.heap[k]? = some (.cells cells q (0, 0))) x cs
 M_move : ∀ {w w1 : World} {base ok x cs}, (∀ k, ok k → w1.heap[k]? = w.heap[k]?) → M w base ok x cs → M w1 base ok x cs
 M_lower : ∀ {w base base' ok x cs}, base' ≤ base → M w base ok x cs → M w base' ok x cs
theorem own_move {w w1 : World} {base : Nat} {e : TypeId} {size n : Nat} {v : Value} {xs : List Value} (h : w.ownsRow base e size v n xs) (hm : ∀ k, v.ownBlock = some k → w1.heap[k]? = w.heap[k]?) : w1.ownsRow base e size v n xs := by
 obtain ⟨h1, h2⟩ := h
 refine ⟨h1, ?_⟩
 rcases h2 with h2 | ⟨g, cap, cur, rfl, hg, hh, r⟩
 ·exact .inl h2
 ·exact .inr ⟨g, cap, cur, rfl, hg, (hm g (by simp [Value.ownBlock])).trans hh, r⟩
theorem own_typed {w : World} {base : Nat} {e : TypeId} {size n : Nat} {v : Value} {xs : List Value} (h : w.ownsRow base e size v n xs) (k : Nat) (hk : v.ownBlock = some k) : ∃ cells, w.heap[k]? = some (.cells cells e (0, 0)) := by
 rcases h.2 with ⟨rfl, _⟩ | ⟨g, cap, cur, rfl, hg, hh, r⟩
 ·simp [Value.ownBlock] at hk
 ·have : g = k := by simpa [Value.ownBlock] using hk
  subst this
  exact ⟨cur, hh⟩
namespace Kd
def C {α : Type} (d : Kd α) (w : World) (A : Option Addr) (n : Nat) (xs : List α) : Prop := ReadsRow (d.K w) d.sz w A n xs
def R {α : Type} (d : Kd α) (e : Nat) (w : World) (base : Nat) (ok : Nat → Prop) (v : Value) (xs : List α) : Prop :=
 (∀ k, v.ownBlock = some k → ok k) ∧ OwnRow (d.M w base (fun k => ok k ∧ some k ≠ v.ownBlock)) e d.sz w base v xs
section
variable {α : Type} {d : Kd α} {e : Nat} {w w1 : World} {base : Nat} {ok ok' : Nat → Prop} {v : Value} {xs : List α}
theorem C_below {A : Option Addr} {n : Nat} (h : d.C w A n xs) (hb : Below w.heap.size w w1) : d.C w1 A n xs := ReadsRow.imp_ h hb (fun _ _ hp => d.K_below hb hp)
theorem R_nil (d : Kd α) (e : Nat) (w : World) (base : Nat) (ok : Nat → Prop) : d.R e w base ok (.slice none 0 0) [] := ⟨fun k hk => by simp [Value.ownBlock] at hk, OwnRow.none_ _ _ _ _ _⟩
theorem R_mono (h : d.R e w base ok v xs) (hok : ∀ k, ok k → ok' k) : d.R e w base ok' v xs := ⟨fun k hk => hok k (h.1 k hk), h.2.imp_ (fun _ _ hp => d.M_mono (fun k hk => ⟨hok k hk.1, hk.2⟩) hp)⟩
theorem R_bound (h : d.R e w base ok v xs) : d.R e w base (fun k => ok k ∧ base ≤ k ∧ k < w.heap.size ∧ ∃ q, q ∈ e :: d.E ∧ ∃ cells, w.heap[k]? = some (.cells cells q (0, 0))) v xs := by
 obtain ⟨h0, inner, ho, hr⟩ := h
 refine ⟨fun k hk => ?_, inner, ho, hr.imp_ (fun _ _ hp => d.M_mono (fun k hk => ?_) (d.M_bound hp))⟩
 ·obtain ⟨cells, hc⟩ := own_typed ho k hk
  exact ⟨h0 k hk, own_base ho k hk, own_lt ho k hk, e, List.mem_cons_self, cells, hc⟩
 ·obtain ⟨⟨h1, h2⟩, h3, h4, q, hq, hc⟩ := hk
  exact ⟨⟨h1, h3, h4, q, List.mem_cons_of_mem _ hq, hc⟩, h2⟩
theorem R_move (h : d.R e w base ok v xs) (hm : ∀ k, ok k → w1.heap[k]? = w.heap[k]?) : d.R e w1 base ok v xs := by
 obtain ⟨h0, inner, ho, hr⟩ := h
 exact ⟨h0, inner, own_move ho (fun k hk => hm k (h0 k hk)), hr.imp_ (fun _ _ hp => d.M_move (fun k hk => hm k hk.1) hp)⟩
theorem R_lower {base' : Nat} (h : d.R e w base ok v xs) (hb : base' ≤ base) : d.R e w base' ok v xs := by
 obtain ⟨h0, inner, ho, hr⟩ := h
 exact ⟨h0, inner, own_weaken ho hb, hr.imp_ (fun _ _ hp => d.M_lower hb hp)⟩
theorem R_step (h : d.R e w base ok v xs) (hm : ∀ k, ok k → k < w.heap.size → w1.heap[k]? = w.heap[k]?) : d.R e w1 base ok v xs :=
 R_mono (R_move (R_bound h) (fun k hk => hm k hk.1 hk.2.2.1)) (fun _ hk => hk.1)
theorem R_below (h : d.R e w base ok v xs) (hb : Below w.heap.size w w1) : d.R e w1 base ok v xs := R_step h (fun k _ hk => hb.block k hk)
theorem R_reads (h : d.R e w base ok v xs) : ∃ A c, v = .slice A xs.length c ∧ xs.length ≤ c ∧ d.C w A xs.length xs := by
 obtain ⟨A, c, he, hl, hr⟩ := OwnRow.reads h.2
 exact ⟨A, c, he, hl, hr.imp_ (Below.refl _ _) (fun _ _ hp => d.K_of_M hp)⟩
theorem R_slice (h : d.R e w base ok v xs) : ∃ A c, v = .slice A xs.length c := by
 obtain ⟨A, c, he, _⟩ := R_reads h
 exact ⟨A, c, he⟩
end
def scalar {α : Type} (enc : α → Value) (h1 : ∀ x, (enc x).oneCell' = true) : Kd α where
 sz := 1
 E := []
 K := fun _ x cs => cs = [enc x]
 M := fun _ _ _ x cs => cs = [enc x]
 K_len := fun h => by rw [h]; rfl
 K_one := fun h u hu => by
  rw [h] at hu
  rw [List.mem_singleton.1 hu]
  exact h1 _
 K_below := fun _ h => h
 K_of_M := fun h => h
 M_mono := fun _ h => h
 M_bound := fun h => h
 M_move := fun _ h => h
 M_lower := fun _ h => h
def int (k : IntKind) : Kd Int := scalar (Value.int k) (fun _ => rfl)
def bool : Kd Bool := scalar Value.bool (fun _ => rfl)
def string : Kd ByteArray := scalar Value.string (fun _ => rfl)
def slice {α : Type} (e : Nat) (d : Kd α) : Kd (List α) where
 sz := 1
 E := e :: d.E
 K := fun w xs cs => ∃ A c, cs = [.slice A xs.length c] ∧ xs.length ≤ c ∧ d.C w A xs.length xs
 M := fun w base ok xs cs => ∃ v, cs = [v] ∧ d.R e w base ok v xs
 K_len := by
  rintro w x cs ⟨A, c, rfl, _⟩
  rfl
 K_one := by
  rintro w x cs ⟨A, c, rfl, _⟩ u hu
  rw [List.mem_singleton.1 hu]
  rfl
 K_below := by
  rintro w w1 x cs hb ⟨A, c, rfl, hl, hr⟩
  exact ⟨A, c, rfl, hl, C_below hr hb⟩
 K_of_M := by
  rintro w base ok x cs ⟨v, rfl, h⟩
  obtain ⟨A, c, rfl, hl, hr⟩ := R_reads h
  exact ⟨A, c, rfl, hl, hr⟩
 M_mono := by
  rintro w base ok ok' x cs hok ⟨v, rfl, h⟩
  exact ⟨v, rfl, R_mono h hok⟩
 M_bound := by
  rintro w base ok x cs ⟨v, rfl, h⟩
  exact ⟨v, rfl, R_bound h⟩
 M_move := by
  rintro w w1 base ok x cs hm ⟨v, rfl, h⟩
  exact ⟨v, rfl, R_move h hm⟩
 M_lower := by
  rintro w base base' ok x cs hb ⟨v, rfl, h⟩
  exact ⟨v, rfl, R_lower h hb⟩
def pair {α β : Type} (a : Kd α) (b : Kd β) : Kd (α × β) where
 sz := a.sz + b.sz
 E := a.E ++ b.E
 K := fun w x cs => ∃ c0 c1, cs = c0 ++ c1 ∧ a.K w x.1 c0 ∧ b.K w x.2 c1
 M := fun w base ok x cs => ∃ c0 c1, cs = c0 ++ c1 ∧ a.M w base ok x.1 c0 ∧ b.M w base ok x.2 c1
 K_len := by
  rintro w x cs ⟨c0, c1, rfl, h0, h1⟩
  rw [List.length_append, a.K_len h0, b.K_len h1]
 K_one := by
  rintro w x cs ⟨c0, c1, rfl, h0, h1⟩ u hu
  rcases List.mem_append.1 hu with hu | hu
  ·exact a.K_one h0 u hu
  ·exact b.K_one h1 u hu
 K_below := by
  rintro w w1 x cs hb ⟨c0, c1, rfl, h0, h1⟩
  exact ⟨c0, c1, rfl, a.K_below hb h0, b.K_below hb h1⟩
 K_of_M := by
  rintro w base ok x cs ⟨c0, c1, rfl, h0, h1⟩
  exact ⟨c0, c1, rfl, a.K_of_M h0, b.K_of_M h1⟩
 M_mono := by
  rintro w base ok ok' x cs hok ⟨c0, c1, rfl, h0, h1⟩
  exact ⟨c0, c1, rfl, a.M_mono hok h0, b.M_mono hok h1⟩
 M_bound := by
  rintro w base ok x cs ⟨c0, c1, rfl, h0, h1⟩
  refine ⟨c0, c1, rfl, a.M_mono ?_ (a.M_bound h0), b.M_mono ?_ (b.M_bound h1)⟩
  ·rintro k ⟨h2, h3, h4, q, hq, hc⟩
   exact ⟨h2, h3, h4, q, List.mem_append_left _ hq, hc⟩
  ·rintro k ⟨h2, h3, h4, q, hq, hc⟩
   exact ⟨h2, h3, h4, q, List.mem_append_right _ hq, hc⟩
 M_move := by
  rintro w w1 base ok x cs hm ⟨c0, c1, rfl, h0, h1⟩
  exact ⟨c0, c1, rfl, a.M_move hm h0, b.M_move hm h1⟩
 M_lower := by
  rintro w base base' ok x cs hb ⟨c0, c1, rfl, h0, h1⟩
  exact ⟨c0, c1, rfl, a.M_lower hb h0, b.M_lower hb h1⟩
def iso {α β : Type} (d : Kd α) (f : β → α) : Kd β where
 sz := d.sz
 E := d.E
 K := fun w x cs => d.K w (f x) cs
 M := fun w base ok x cs => d.M w base ok (f x) cs
 K_len := d.K_len
 K_one := d.K_one
 K_below := d.K_below
 K_of_M := d.K_of_M
 M_mono := d.M_mono
 M_bound := d.M_bound
 M_move := d.M_move
 M_lower := d.M_lower
theorem C_get {α : Type} {d : Kd α} {w : World} {A : Option Addr} {n : Nat} {xs : List α} (h : d.C w A n xs) (z : α) (i : Int) (h0 : 0 ≤ i) (h1 : i < n) :
  ∃ ad c, A = some ad ∧ c.length = d.sz ∧ d.K w (xs.getD i.toNat z) c ∧ ∀ j u, c[j]? = some u → w.cell? (ad.add (i.toNat * d.sz + j)) = some u := ReadsRow.get_ h z i h0 h1
end Kd
theorem own_take {w : World} {base n m c size : Nat} {e : TypeId} {A : Option Addr} {xs : List Value} (h : w.ownsRow base e size (.slice A n c) n xs) (hm : m ≤ n) : w.ownsRow base e size (.slice A m c) m (xs.take (m * size)) := by
 obtain ⟨h1, h2⟩ := h
 refine ⟨by rw [List.length_take, h1]; exact Nat.min_eq_left (Nat.mul_le_mul_right _ hm), ?_⟩
 rcases h2 with ⟨he, h0⟩ | ⟨g, cap, cur, he, hb, hh, hnc, hcm, hcs, ht⟩
 ·injection he with ha _ hc
  subst ha; subst hc
  exact .inl ⟨by rw [show m = 0 by omega], by omega⟩
 ·injection he with ha _ hc
  subst ha; subst hc
  refine .inr ⟨g, c, cur, rfl, hb, hh, by omega, hcm, hcs, ?_⟩
  rw [← ht, List.take_take, Nat.min_eq_left (Nat.mul_le_mul_right _ hm)]
def QRow (w : World) (base : Nat) (e : TypeId) (size : Nat) (v : Value) (n : Nat) (xs : List Value) : Prop :=
 xs.length = n * size ∧
 ((n = 0 ∧ ∃ A, v = .slice A 0 0 ∧ ∀ a, A = some a → base ≤ a.block ∧ ∃ cur, w.heap[a.block]? = some (.cells cur e (0, 0))) ∨
  ∃ g off cap cur, v = .slice (some ⟨g, off * size, none⟩) n cap ∧ base ≤ g ∧ w.heap[g]? = some (.cells cur e (0, 0)) ∧ n ≤ cap ∧ off + cap ≤ maxLen ∧ cur.size = (off + cap) * size ∧ (cur.toList.drop (off * size)).take (n * size) = xs)
namespace Kd
def Q {α : Type} (d : Kd α) (e : Nat) (w : World) (base : Nat) (ok : Nat → Prop) (v : Value) (xs : List α) : Prop :=
 (∀ k, v.ownBlock = some k → ok k) ∧ ∃ inner, QRow w base e d.sz v xs.length inner ∧ Reps (d.M w base (fun k => ok k ∧ some k ≠ v.ownBlock)) d.sz xs inner
end Kd
theorem below_step {w W w2 : World} (h : Below w.heap.size w W) (k : Below W.heap.size W w2) : Below w.heap.size w w2 := below_then h h.size k
theorem own_alloc {W : World} {base n : Nat} {e : TypeId} {size : Nat} {v : Value} {xs : List Value} (h : W.ownsRow base e size v n xs) (o : Obj) : (W.alloc o).ownsRow base e size v n xs := h.alloc o
theorem ReadsInt.nil (W : World) (k : IntKind) : ReadsInt W k none ([] : List Int).length [] := ⟨rfl, by simp, fun h => absurd h (Nat.lt_irrefl 0)⟩
theorem ReadsInt.drewN {W : World} {k : IntKind} {A : Option Addr} {n : Nat} {xs : List Int} (h : ReadsInt W k A n xs) (m : Nat) : ReadsInt (W.drewN m) k A n xs := h
theorem ReadsOf.nil {α : Type} (enc : α → Value) (d : α) (W : World) : ReadsOf enc d W none ([] : List α).length [] := ⟨rfl, by simp, fun h => absurd h (Nat.lt_irrefl 0)⟩
theorem ReadsOf.drewN {α : Type} {enc : α → Value} {d : α} {W : World} {A : Option Addr} {n : Nat} {xs : List α} (h : ReadsOf enc d W A n xs) (m : Nat) : ReadsOf enc d (W.drewN m) A n xs := h
theorem blk_put {w : World} {g : Nat} {t : TypeId} {cs cs' : Array Value} (h : w.heap[g]? = some (.cells cs t (0, 0))) (i : Nat) (u : Value) (e : cs.setIfInBounds i u = cs') : (w.setCell ⟨g, i, none⟩ u).heap[g]? = some (.cells cs' t (0, 0)) := e ▸ blk_set h i u
theorem own_cap {W : World} {base n c : Nat} {e : TypeId} {size : Nat} {A : Option Addr} {xs : List Value} (h : W.ownsRow base e size (.slice A n c) n xs) : n ≤ c := by
 rcases h.2 with ⟨h1, h2⟩ | ⟨g, cap, cur, h1, _, _, h2, _⟩
 ·injection h1 with _ h3 h4
  omega
 ·injection h1 with _ _ h4
  omega
theorem below_drew1 {base : Nat} {w W : World} (h : Below base w W) : Below base w W.drew := h.drew
end Go.Proofs.YthcmfjpheanphaaW.PrintWords
namespace Go.Proofs.YthcmfjpheanphaaW.PrintLast
section
variable {P : Program} {ops : Array Oper} {Q : Exit → Act → World → Prop} {md : Region.Mode} {S : World → Prop} {ds : List Nat}
def ListedClosed (md : Region.Mode) (ops : Array Oper) (listed : Array Bool) : Prop :=
 ∀ j oj, ops[j]? = some oj → listed.getD j false = true → ∀ e ∈ oj.after, Region.binds md e = true → listed.getD e.on false = true
theorem ListedClosed.set {listed : Array Bool} {i : Nat} (h : ListedClosed md ops listed) (hi : i ∈ Region.ready md ops listed) : ListedClosed md ops (listed.setIfInBounds i true) := by
 obtain ⟨_, oi, hoi, hall⟩ := mem_ready.1 hi
 intro j oj hj hl e he hb
 by_cases hij : i = j
 ·subst hij
  have : oj = oi := Option.some.inj (hj.symm.trans hoi)
  subst this
  exact getD_set_true (hall e he hb)
 ·rw [getD_set_ne false hij] at hl
  exact getD_set_true (h j oj hj hl e he hb)
def wpAnyLast (P : Program) (md : Region.Mode) (ops : Array Oper) (Q : Exit → Act → World → Prop) (S : World → Prop) (ds : List Nat) : Nat → Array Bool → Act → World → Prop
 | 0, listed, a, w => Region.ready md ops listed = [] ∧ Q .normal a w
 | fuel + 1, listed, a, w =>
  (Region.ready md ops listed = [] → Q .normal a w) ∧
  ∀ i ∈ Region.ready md ops listed, wpOp P ops Q i (fun a' w' => (i ∉ ds → S w → S w') ∧ wpAnyLast P md ops Q S ds fuel (listed.setIfInBounds i true) a' w') a w
end
section
variable {P : Program} {ops : Array Oper} {Q : Exit → Act → World → Prop} {md : Region.Mode} {S : World → Prop} {ds : List Nat}
def AllReadyL (P : Program) (md : Region.Mode) (ops : Array Oper) (Q : Exit → Act → World → Prop) (S : World → Prop) (ds : List Nat) (fuel : Nat) (listed : Array Bool) (a : Act) (w : World) (rs : List Nat) : Prop :=
 ∀ i ∈ rs, wpOp P ops Q i (fun a' w' => (i ∉ ds → S w → S w') ∧ wpAnyLast P md ops Q S ds fuel (listed.setIfInBounds i true) a' w') a w
theorem AllReadyL.nil {fuel : Nat} {listed : Array Bool} {a : Act} {w : World} : AllReadyL P md ops Q S ds fuel listed a w [] := fun _ h => by cases h
theorem AllReadyL.cons {fuel : Nat} {listed : Array Bool} {a : Act} {w : World} {i : Nat} {o : Oper} {rs : List Nat} (ho : ops[i]? = some o) (hd : i ∉ ds)
  (h : ∀ K' : Act → World → Prop, Shut (∀ a w, S w → (S w → wpAnyLast P md ops Q S ds fuel (listed.setIfInBounds i true) a w) → K' a w) → if Region.wanted o (yielded ops a.tmps) = true then Oper.wp P o a w K' Q else K' (a.put o.dst undef) w)
  (hs : AllReadyL P md ops Q S ds fuel listed a w rs) : AllReadyL P md ops Q S ds fuel listed a w (i :: rs) := fun j hj => by
 rcases List.mem_cons.1 hj with rfl | hj
 ·exact wpOp_step ho (fun K' hK => h K' (fun a w hS hW => hK a w ⟨fun _ _ => hS, hW hS⟩))
 ·exact hs j hj
theorem enters_ {f : FuncId} {fn : Func} (hf : P.funcs[f]? = some fn) (hname : (fn.name == "runtime.NumGoroutine") = false) (hb : fn.body.isSome = true) (args : Array Value) (w : World) : (callFunc f args).run P w = .ok (.enter f args) w := by
 have h1 : fn.name ≠ "runtime.NumGoroutine" := by simpa using hname
 obtain ⟨c, hc⟩ := Option.isSome_iff_exists.1 hb
 simp [callFunc, hf, h1, hc]
theorem goesL_ {rest : List Oper} {oi : Oper} {a : Act} {w : World} (N : Option Tmp) (hd : oi.dst = N) (hg : oi.guard = none) {f : FuncId} {fn : Func} {as_ : Array Operand} {ts : Array TypeId} (hf : P.funcs[f]? = some fn) (hname : (fn.name == "runtime.NumGoroutine") = false) (hb : fn.body.isSome = true) (args : Array Value)
  (hop : oi.op = .call { callee := .value (.func f), args := as_, argTypes := ts }) (hargs : as_.map a.eval = args)
  (h : Calls P f args w fun e w' => ∃ v, e = .returned v ∧ wpList P ops Q rest (a.put N v) w') : wpList P ops Q (oi :: rest) a w := by
 refine wpList_plain hg fun K hK => ?_
 have he := enters_ hf hname hb args w
 have hrun : (execOp a.eval oi).run P w = .ok (.enter f args) w := by
  unfold execOp
  simp [hop, resolve, Deferred.ofValue, invoke, Act.eval, hargs, he]
 unfold Oper.wp
 rw [hrun, Oper.upon_enter]
 refine h.mono fun e w'' hh => ?_
 obtain ⟨v, rfl, hk⟩ := hh
 subst hd
 exact hK _ _ hk
end
end Go.Proofs.YthcmfjpheanphaaW.PrintLast
namespace Go.Proofs.YthcmfjpheanphaaW.PrintWords
open Go.RowKit
namespace Kd
def tag {α : Type} (f : Nat → Nat) (d : Kd α) : Kd (α × Nat) where
 sz := d.sz
 E := d.E
 K := fun w x cs => d.K w x.1 cs
 M := fun w base ok x cs => d.M w base (fun k => ok k ∧ f k = x.2) x.1 cs
 K_len := fun h => d.K_len h
 K_one := fun h => d.K_one h
 K_below := fun hb h => d.K_below hb h
 K_of_M := fun h => d.K_of_M h
 M_mono := fun hok h => d.M_mono (fun k hk => ⟨hok k hk.1, hk.2⟩) h
 M_bound := fun h => d.M_mono (fun _ hk => ⟨⟨hk.1.1, hk.2⟩, hk.1.2⟩) (d.M_bound h)
 M_move := fun hm h => d.M_move (fun k hk => hm k hk.1) h
 M_lower := fun hb h => d.M_lower hb h
def raw (sz : Nat) : Kd (List Value) where
 sz := sz
 E := []
 K := fun _ x cs => cs = x ∧ cs.length = sz ∧ ∀ u ∈ cs, u.oneCell' = true
 M := fun _ _ _ x cs => cs = x ∧ cs.length = sz ∧ ∀ u ∈ cs, u.oneCell' = true
 K_len := fun h => h.2.1
 K_one := fun h => h.2.2
 K_below := fun _ h => h
 K_of_M := fun h => h
 M_mono := fun _ h => h
 M_bound := fun h => h
 M_move := fun _ h => h
 M_lower := fun _ h => h
def S {α : Type} (d : Kd α) (e : Nat) (w : World) (base : Nat) (ok : Nat → Prop) (v : Value) (xs : List α) : Prop := ∃ f, (tag f d).R e w base ok v xs.zipIdx
def gap {α : Type} (f : Nat → Nat) (d : Kd α) (i : Nat) (c : List Value) : Kd (α × Nat) where
 sz := d.sz
 E := d.E
 K := fun w x cs => (x.2 = i → cs = c ∧ cs.length = d.sz ∧ ∀ u ∈ cs, u.oneCell' = true) ∧ (x.2 ≠ i → d.K w x.1 cs)
 M := fun w base ok x cs => (x.2 = i → cs = c ∧ cs.length = d.sz ∧ ∀ u ∈ cs, u.oneCell' = true) ∧ (x.2 ≠ i → d.M w base (fun k => ok k ∧ f k = x.2) x.1 cs)
 K_len := fun {w x cs} h => by
  by_cases hx : x.2 = i
  ·exact (h.1 hx).2.1
  ·exact d.K_len (h.2 hx)
 K_one := fun {w x cs} h => by
  by_cases hx : x.2 = i
  ·exact (h.1 hx).2.2
  ·exact d.K_one (h.2 hx)
 K_below := fun hb h => ⟨h.1, fun hx => d.K_below hb (h.2 hx)⟩
 K_of_M := fun h => ⟨h.1, fun hx => d.K_of_M (h.2 hx)⟩
 M_mono := fun hok h => ⟨h.1, fun hx => d.M_mono (fun k hk => ⟨hok k hk.1, hk.2⟩) (h.2 hx)⟩
 M_bound := fun h => ⟨h.1, fun hx => d.M_mono (fun _ hk => ⟨⟨hk.1.1, hk.2⟩, hk.1.2⟩) (d.M_bound (h.2 hx))⟩
 M_move := fun hm h => ⟨h.1, fun hx => d.M_move (fun k hk => hm k hk.1) (h.2 hx)⟩
 M_lower := fun hb h => ⟨h.1, fun hx => d.M_lower hb (h.2 hx)⟩
def H {α : Type} (d : Kd α) (e : Nat) (w : World) (base : Nat) (ok : Nat → Prop) (v : Value) (xs : List α) (i : Int) (oki : Nat → Prop) (c : List Value) : Prop :=
 (∀ k, oki k → ok k) ∧ ∃ f, (gap f d i.toNat c).R e w base (fun k => ok k ∧ ¬ oki k) v xs.zipIdx
end Kd
end Go.Proofs.YthcmfjpheanphaaW.PrintWords
namespace Go.Proofs.YthcmfjpheanphaaW.PrintWords
open Go.RowKit
namespace Kd
structure Heap {α : Type} (d : Kd α) : Prop where
 K : ∀ {w w1 : World} {x : α} {cs : List Value}, (∀ k, k < w.heap.size → w1.heap[k]? = w.heap[k]?) → d.K w x cs → d.K w1 x cs
theorem cell_heap {w w1 : World} (hb : ∀ k, k < w.heap.size → w1.heap[k]? = w.heap[k]?) {a : Addr} {v : Value} (h : w.cell? a = some v) : w1.cell? a = some v := by
 have := hb a.block (World.block_lt_of_cell? w a h)
 simpa [World.cell?, this] using h
theorem Heap.C {α : Type} {d : Kd α} (hd : Heap d) {w w1 : World} {A : Option Addr} {n : Nat} {xs : List α} (hb : ∀ k, k < w.heap.size → w1.heap[k]? = w.heap[k]?) (h : d.C w A n xs) : d.C w1 A n xs :=
 ⟨h.1, h.2.1, fun hn => by
  obtain ⟨ad, e, hc⟩ := h.2.2 hn
  refine ⟨ad, e, fun j p hj => ?_⟩
  obtain ⟨c, hs, hr, hcell⟩ := hc j p hj
  exact ⟨c, hs, hd.K hb hr, fun i u hu => cell_heap hb (hcell i u hu)⟩⟩
end Kd
end Go.Proofs.YthcmfjpheanphaaW.PrintWords
namespace Go.Proofs.YthcmfjpheanphaaW.PrintWords
open Go.RowKit
def Kept (w W : World) (S : Nat → Prop) : Prop := w.heap.size ≤ W.heap.size ∧ ∀ i, i < w.heap.size → ¬ S i → W.heap[i]? = w.heap[i]?
section
variable {w W W2 : World} {S S2 S' : Nat → Prop}
theorem Kept.refl (w : World) (S : Nat → Prop) : Kept w w S := ⟨Nat.le_refl _, fun _ _ _ => rfl⟩
theorem Kept.of_below (h : Below w.heap.size w W) (S : Nat → Prop) : Kept w W S := ⟨h.size, fun i hi _ => h.block i hi⟩
theorem Kept.mono (h : Kept w W S) (hs : ∀ k, S k → S' k) : Kept w W S' := ⟨h.1, fun i hi hn => h.2 i hi (fun hk => hn (hs i hk))⟩
theorem Kept.then_ (h : Kept w W S) (k : Kept W W2 S2) (hs : ∀ k, S2 k → S k ∨ w.heap.size ≤ k) : Kept w W2 S :=
 ⟨Nat.le_trans h.1 k.1, fun i hi hn => (k.2 i (Nat.lt_of_lt_of_le hi h.1) (fun h2 => (hs i h2).elim hn (fun h3 => by omega))).trans (h.2 i hi hn)⟩
theorem Kept.below (h : Kept w W S) (hb : Below W.heap.size W W2) : Kept w W2 S := h.then_ (Kept.of_below hb (fun _ => False)) (fun _ hk => hk.elim)
theorem Kept.alloc (h : Kept w W S) (o : Obj) : Kept w (W.alloc o) S := h.below (below_alloc (Below.refl _ _) o)
theorem Kept.drew (h : Kept w W S) : Kept w W.drew S := h
theorem Kept.drewN (h : Kept w W S) (m : Nat) : Kept w (W.drewN m) S := h
theorem Kept.setCell (h : Kept w W S) {p : Addr} (hp : S p.block ∨ w.heap.size ≤ p.block) (u : Value) : Kept w (W.setCell p u) S :=
 h.then_ (S2 := fun k => k = p.block) ⟨by simp [World.setCell], fun i _ hn => Below.heap_setCell W p u i hn⟩ (fun k hk => by rw [hk]; exact hp)
end
def Foot (P : World → Prop) (W : World) (ok : Nat → Prop) : Prop := ∀ W' : World, (∀ k, ok k → k < W.heap.size → W'.heap[k]? = W.heap[k]?) → P W'
namespace Foot
variable {P Q : World → Prop} {W W1 : World} {ok ok' : Nat → Prop}
theorem mono (h : Foot P W ok) (hok : ∀ k, ok k → ok' k) : Foot P W ok' := fun W' hW => h W' (fun k hk hlt => hW k (hok k hk) hlt)
theorem imp (h : Foot P W ok) (hi : ∀ W', P W' → Q W') : Foot Q W ok := fun W' hW => hi W' (h W' hW)
end Foot
namespace Kd
def F {α : Type} (d : Kd α) (W : World) (ok : Nat → Prop) (A : Option Addr) (n : Nat) (xs : List α) : Prop := Foot (fun W => d.C W A n xs) W ok
def FK {α : Type} (d : Kd α) (W : World) (ok : Nat → Prop) (x : α) (c : List Value) : Prop := Foot (fun W => d.K W x c) W ok
end Kd
end Go.Proofs.YthcmfjpheanphaaW.PrintWords
namespace Go.Proofs.YthcmfjpheanphaaW.PrintWords
open Go.RowKit
namespace Kd
section
variable {α : Type} {d : Kd α} {e base n cc g : Nat} {ok ok' okp S : Nat → Prop} {w w1 W W1 : World} {A : Option Addr} {u v v1 : Value} {xs : List α} {x : α} {c : List Value}
def N {α : Type} (d : Kd α) (e : Nat) (w : World) (base : Nat) (ok : Nat → Prop) (v : Value) (xs : List α) : Prop :=
 (∀ k, v.ownBlock = some k → ok k) ∧ ∃ rows : List (List Value), rows.length = xs.length ∧ (raw d.sz).R e w base (fun k => some k = v.ownBlock) v rows ∧ ∀ (j : Nat) (x : α) (c : List Value), xs[j]? = some x → rows[j]? = some c → FK d w (fun k => ok k ∧ some k ≠ v.ownBlock) x c
end
end Kd
end Go.Proofs.YthcmfjpheanphaaW.PrintWords
namespace Go.Proofs.YthcmfjpheanphaaW.PrintWords
open Go.RowKit
section
variable {P : Program} {d : Nat} {xs ys : Array Value} {f : Field} {fs : List Field} {a b : Value} {r s : Bool} {w : World}
theorem eqf_last (hn : (f.name == "_") = false) (ha : (part f.type xs f.offset).run P w = .ok a w) (hb : (part f.type ys f.offset).run P w = .ok b w) (he : (Op.equalIn d f.type a b).run P w = .ok r w) : (Op.eqFields d xs ys [f]).run P w = .ok r w := by
 have hn' : f.name ≠ "_" := by simpa using hn
 simp only [Op.eqFields, if_pos hn', Sem.run_bind, ha, hb, he, Result.andThen_ok]
 cases r <;> simp
theorem eqf_cons (hn : (f.name == "_") = false) (ha : (part f.type xs f.offset).run P w = .ok a w) (hb : (part f.type ys f.offset).run P w = .ok b w) (he : (Op.equalIn d f.type a b).run P w = .ok r w) (hr : (Op.eqFields d xs ys fs).run P w = .ok s w) : (Op.eqFields d xs ys (f :: fs)).run P w = .ok (r && s) w := by
 have hn' : f.name ≠ "_" := by simpa using hn
 rw [Op.eqFields]
 simp only [if_pos hn', Sem.run_bind, ha, hb, he, Result.andThen_ok]
 cases r
 ·simp
 ·simpa using hr
theorem eqA_of {t : TypeId} {fs : Array Field} (hu : P.underlying t = some (.struct fs)) (hp : P.stoodInHeld t = false) (h : (Op.eqFields d xs ys fs.toList).run P w = .ok r w) : (Op.equalIn (d + 1) t (.agg xs) (.agg ys)).run P w = .ok r w := by
 have hf : P.fieldsOf t = fs := by simp [Program.fieldsOf, hu]
 rw [run_equalIn_struct (P := P) w d t xs ys (by rw [hf]; exact hu) hp, hf]
 exact h
end
end Go.Proofs.YthcmfjpheanphaaW.PrintWords
namespace Go.Proofs.YthcmfjpheanphaaW.PrintWords
theorem Reps.front {α : Type} {R : α → List Value → Prop} {size : Nat} {ps : List α} {cs c all : List Value} {p : α} (hp : R p c) (hc : c.length = size) (h : Reps R size ps cs) (ha : c ++ cs = all) : Reps R size (p :: ps) all := by
 subst ha
 refine ⟨by rw [List.length_append, hc, h.1, List.length_cons, Nat.succ_mul, Nat.add_comm], fun j q hq => ?_⟩
 cases j with
 | zero =>
  simp only [List.getElem?_cons_zero, Option.some.injEq] at hq
  subst hq
  rw [Nat.zero_mul, List.drop_zero, List.take_append_of_le_length (by omega), List.take_of_length_le (by omega)]
  exact hp
 | succ j =>
  simp only [List.getElem?_cons_succ] at hq
  have h1 := h.2 j q hq
  rw [Nat.succ_mul, List.drop_append, List.drop_of_length_le (by rw [hc]; exact Nat.le_add_left _ _), List.nil_append, hc, Nat.add_sub_cancel]
  exact h1
theorem Reps.c2 {α : Type} {R : α → List Value → Prop} {ps : List α} {cs : List Value} {p : α} {va vb : Value} (hp : R p [va, vb]) (h : Reps R 2 ps cs) : Reps R 2 (p :: ps) (va :: vb :: cs) := Reps.front hp rfl h rfl
theorem Reps.c3 {α : Type} {R : α → List Value → Prop} {ps : List α} {cs : List Value} {p : α} {va vb vc : Value} (hp : R p [va, vb, vc]) (h : Reps R 3 ps cs) : Reps R 3 (p :: ps) (va :: vb :: vc :: cs) := Reps.front hp rfl h rfl
theorem Reps.c4 {α : Type} {R : α → List Value → Prop} {ps : List α} {cs : List Value} {p : α} {va vb vc vd : Value} (hp : R p [va, vb, vc, vd]) (h : Reps R 4 ps cs) : Reps R 4 (p :: ps) (va :: vb :: vc :: vd :: cs) := Reps.front hp rfl h rfl
theorem Reps.c5 {α : Type} {R : α → List Value → Prop} {ps : List α} {cs : List Value} {p : α} {va vb vc vd ve : Value} (hp : R p [va, vb, vc, vd, ve]) (h : Reps R 5 ps cs) : Reps R 5 (p :: ps) (va :: vb :: vc :: vd :: ve :: cs) := Reps.front hp rfl h rfl
theorem Reps.c6 {α : Type} {R : α → List Value → Prop} {ps : List α} {cs : List Value} {p : α} {va vb vc vd ve vf : Value} (hp : R p [va, vb, vc, vd, ve, vf]) (h : Reps R 6 ps cs) : Reps R 6 (p :: ps) (va :: vb :: vc :: vd :: ve :: vf :: cs) := Reps.front hp rfl h rfl
end Go.Proofs.YthcmfjpheanphaaW.PrintWords
namespace Go.Proofs.YthcmfjpheanphaaW.PrintLast
def up (b : Nat → Bool) (i : Nat) : Nat → Bool := fun j => if j = i then true else b j
end Go.Proofs.YthcmfjpheanphaaW.PrintLast
namespace Go.Proofs.YthcmfjpheanphaaW.PrintMore
open Go.RowKit Go.Proofs.YthcmfjpheanphaaW.PrintWords
theorem max2_int (k k' : IntKind) (x y : Int) : Builtin.max2 (.int k x) (.int k' y) = pure (.int k (if x < y then y else x)) := by simp only [Builtin.max2, gt_iff_lt]
theorem min2_int (k k' : IntKind) (x y : Int) : Builtin.min2 (.int k x) (.int k' y) = pure (.int k (if y < x then y else x)) := by simp only [Builtin.min2]
theorem max_two (ats : Array TypeId) (ty : TypeId) (a b : Value) : Builtin.max_ ats ty #[a, b] = (Builtin.max2 a b >>= fun s => pure s) := by simp only [Builtin.max_, List.foldlM_cons, List.foldlM_nil]
theorem min_two (ats : Array TypeId) (ty : TypeId) (a b : Value) : Builtin.min_ ats ty #[a, b] = (Builtin.min2 a b >>= fun s => pure s) := by simp only [Builtin.min_, List.foldlM_cons, List.foldlM_nil]
theorem max_three (ats : Array TypeId) (ty : TypeId) (a b c : Value) : Builtin.max_ ats ty #[a, b, c] = (Builtin.max2 a b >>= fun s => Builtin.max2 s c >>= fun s => pure s) := by simp only [Builtin.max_, List.foldlM_cons, List.foldlM_nil]
theorem min_three (ats : Array TypeId) (ty : TypeId) (a b c : Value) : Builtin.min_ ats ty #[a, b, c] = (Builtin.min2 a b >>= fun s => Builtin.min2 s c >>= fun s => pure s) := by simp only [Builtin.min_, List.foldlM_cons, List.foldlM_nil]
theorem max_four (ats : Array TypeId) (ty : TypeId) (a b c d : Value) : Builtin.max_ ats ty #[a, b, c, d] = (Builtin.max2 a b >>= fun s => Builtin.max2 s c >>= fun s => Builtin.max2 s d >>= fun s => pure s) := by simp only [Builtin.max_, List.foldlM_cons, List.foldlM_nil]
theorem min_four (ats : Array TypeId) (ty : TypeId) (a b c d : Value) : Builtin.min_ ats ty #[a, b, c, d] = (Builtin.min2 a b >>= fun s => Builtin.min2 s c >>= fun s => Builtin.min2 s d >>= fun s => pure s) := by simp only [Builtin.min_, List.foldlM_cons, List.foldlM_nil]
end Go.Proofs.YthcmfjpheanphaaW.PrintMore
namespace Go.Proofs.YthcmfjpheanphaaW.PrintWords
open Go.RowKit
section
variable {P : Program} {ops : Array Oper} {rest : List Oper} {o : Oper} {a : Act} {Q : Exit → Act → World → Prop} {W : World}
theorem gate_callee {f : FuncId} {as_ : Array Operand} {ts : Array TypeId} (_ho : o.op = .call { callee := .value (.func f), args := as_, argTypes := ts }) (h : wpList P ops Q (o :: rest) a W) : wpList P ops Q (o :: rest) a W := h
end
end Go.Proofs.YthcmfjpheanphaaW.PrintWords
namespace Go.Proofs.Ythcmfjpheanphaa.Pr
open Go.RowKit Go.Proofs.YthcmfjpheanphaaW.PrintWords Go.Proofs.YthcmfjpheanphaaW.PrintLast Go.Proofs.YthcmfjpheanphaaW.PrintMore
attribute [local go_sem] max2_int min2_int max_two min_two max_three min_three max_four min_four
def errW : Option Int → Value
 | none => .nilIface
 | some c => .iface 0 (.int .i64 c)
theorem errW_none : errW none = .nilIface := rfl
theorem errW_some (c : Int) : errW (some c) = .iface 0 (.int .i64 c) := rfl
theorem info56 : (Try.prog.info? 56).map (fun i => (i.zero, i.size, i.bytes)) = some (some (.agg #[(.int .u8 0), (.string ⟨#[]⟩), (.int .i64 0), (.int .i64 0)]), 4, 40) := by kernel_rfl
structure S27 where
 f0 : Int
 f1 : ByteArray
def z27 : S27 := ⟨(0 : Int), (⟨#[]⟩ : ByteArray)⟩
def rd_T27 (xs : List S27) (i : Int) : S27 := xs.getD i.toNat z27
structure S47 where
 f0 : Int
 f1 : Int
 f2 : ByteArray
 f3 : Int
def z47 : S47 := ⟨(0 : Int), (0 : Int), (⟨#[]⟩ : ByteArray), (0 : Int)⟩
def k47 : Kd S47 := Kd.iso (Kd.pair (Kd.int .i64) (Kd.pair (Kd.int .u8) (Kd.pair Kd.string (Kd.int .i64)))) (fun x : S47 => (x.f0, x.f1, x.f2, x.f3))
theorem k47_open {w : World} {x : S47} {cs : List Value} (h : k47.K w x cs) : cs = [.int .i64 x.f0, .int .u8 x.f1, .string x.f2, .int .i64 x.f3] := by
 obtain ⟨_, _, rfl, rfl, ⟨_, _, rfl, rfl, ⟨_, _, rfl, rfl, rfl⟩⟩⟩ := h
 exact rfl
theorem k47_mkM (w : World) (base : Nat) (ok : Nat → Prop) (x : S47)  : k47.M w base ok x [.int .i64 x.f0, .int .u8 x.f1, .string x.f2, .int .i64 x.f3] := ⟨[.int .i64 x.f0], [.int .u8 x.f1, .string x.f2, .int .i64 x.f3], rfl, rfl, ⟨[.int .u8 x.f1], [.string x.f2, .int .i64 x.f3], rfl, rfl, ⟨[.string x.f2], [.int .i64 x.f3], rfl, rfl, rfl⟩⟩⟩
def rd_T47 (xs : List S47) (i : Int) : S47 := xs.getD i.toNat z47
theorem at_T47 {w : World} {A : Option Addr} {n : Nat} {xs : List S47} (h : Kd.C k47 w A n xs) (i : Int) (h0 : 0 ≤ i) (h1 : i < n) : ∃ ad , A = some ad ∧ w.cell? (ad.add (i.toNat * 4)) = some (.int .i64 (rd_T47 xs i).f0) ∧ w.cell? ⟨(ad.add (i.toNat * 4)).block, (ad.add (i.toNat * 4)).off + 1, none⟩ = some (.int .u8 (rd_T47 xs i).f1) ∧ w.cell? ⟨(ad.add (i.toNat * 4)).block, (ad.add (i.toNat * 4)).off + 2, none⟩ = some (.string (rd_T47 xs i).f2) ∧ w.cell? ⟨(ad.add (i.toNat * 4)).block, (ad.add (i.toNat * 4)).off + 3, none⟩ = some (.int .i64 (rd_T47 xs i).f3) := by
 obtain ⟨ad, c, e, _, hK, hc0⟩ := Kd.C_get h z47 i h0 h1
 have hc : ∀ j u, c[j]? = some u → w.cell? (ad.add (i.toNat * 4 + j)) = some u := hc0
 obtain rfl := k47_open hK
 exact ⟨ad, e, hc 0 _ rfl, by rw [← add_field _ _ 1 (by omega)]; exact hc 1 _ rfl, by rw [← add_field _ _ 2 (by omega)]; exact hc 2 _ rfl, by rw [← add_field _ _ 3 (by omega)]; exact hc 3 _ rfl⟩
structure S56 where
 f0 : Int
 f1 : ByteArray
 f2 : Int
 f3 : Int
def z56 : S56 := ⟨(0 : Int), (⟨#[]⟩ : ByteArray), (0 : Int), (0 : Int)⟩
def k56 : Kd S56 := Kd.iso (Kd.pair (Kd.int .u8) (Kd.pair Kd.string (Kd.pair (Kd.int .i64) (Kd.int .i64)))) (fun x : S56 => (x.f0, x.f1, x.f2, x.f3))
theorem k56_open {w : World} {x : S56} {cs : List Value} (h : k56.K w x cs) : cs = [.int .u8 x.f0, .string x.f1, .int .i64 x.f2, .int .i64 x.f3] := by
 obtain ⟨_, _, rfl, rfl, ⟨_, _, rfl, rfl, ⟨_, _, rfl, rfl, rfl⟩⟩⟩ := h
 exact rfl
theorem k56_openM {w : World} {base : Nat} {ok : Nat → Prop} {x : S56} {cs : List Value} (h : k56.M w base ok x cs) : cs = [.int .u8 x.f0, .string x.f1, .int .i64 x.f2, .int .i64 x.f3] := by
 obtain ⟨_, _, rfl, rfl, ⟨_, _, rfl, rfl, ⟨_, _, rfl, rfl, rfl⟩⟩⟩ := h
 exact rfl
theorem k56_mkM (w : World) (base : Nat) (ok : Nat → Prop) (x : S56)  : k56.M w base ok x [.int .u8 x.f0, .string x.f1, .int .i64 x.f2, .int .i64 x.f3] := ⟨[.int .u8 x.f0], [.string x.f1, .int .i64 x.f2, .int .i64 x.f3], rfl, rfl, ⟨[.string x.f1], [.int .i64 x.f2, .int .i64 x.f3], rfl, rfl, ⟨[.int .i64 x.f2], [.int .i64 x.f3], rfl, rfl, rfl⟩⟩⟩
def rd_T56 (xs : List S56) (i : Int) : S56 := xs.getD i.toNat z56
theorem at_T56 {w : World} {A : Option Addr} {n : Nat} {xs : List S56} (h : Kd.C k56 w A n xs) (i : Int) (h0 : 0 ≤ i) (h1 : i < n) : ∃ ad , A = some ad ∧ w.cell? (ad.add (i.toNat * 4)) = some (.int .u8 (rd_T56 xs i).f0) ∧ w.cell? ⟨(ad.add (i.toNat * 4)).block, (ad.add (i.toNat * 4)).off + 1, none⟩ = some (.string (rd_T56 xs i).f1) ∧ w.cell? ⟨(ad.add (i.toNat * 4)).block, (ad.add (i.toNat * 4)).off + 2, none⟩ = some (.int .i64 (rd_T56 xs i).f2) ∧ w.cell? ⟨(ad.add (i.toNat * 4)).block, (ad.add (i.toNat * 4)).off + 3, none⟩ = some (.int .i64 (rd_T56 xs i).f3) := by
 obtain ⟨ad, c, e, _, hK, hc0⟩ := Kd.C_get h z56 i h0 h1
 have hc : ∀ j u, c[j]? = some u → w.cell? (ad.add (i.toNat * 4 + j)) = some u := hc0
 obtain rfl := k56_open hK
 exact ⟨ad, e, hc 0 _ rfl, by rw [← add_field _ _ 1 (by omega)]; exact hc 1 _ rfl, by rw [← add_field _ _ 2 (by omega)]; exact hc 2 _ rfl, by rw [← add_field _ _ 3 (by omega)]; exact hc 3 _ rfl⟩
end Go.Proofs.Ythcmfjpheanphaa.Pr
namespace Go.Proofs.Ythcmfjpheanphaa.Pr
open Go.RowKit Go.Proofs.YthcmfjpheanphaaW.PrintWords
structure Opn where
 kind : Int
 pos : Int
 kids : Int
 note : Int
 past : Bool
 cols : Int
 text : Int
def zOpn : Opn := ⟨0, 0, 0, 0, false, 0, 0⟩
structure Bld where
 row : List Opn
 t : List S56
def topP (r : List Opn) : Opn := r.getLast?.getD zOpn
def hasP (k : Int) (r : List Opn) : Nat := (r.filter (·.kind == k)).length
def aroundP (ks : List Int) (r : List Opn) : Nat → Option Nat
 | 0 => none
 | n + 1 => if ks.contains (r.getD n zOpn).kind then some n else aroundP ks r n
def flowK : List Int := [49, 50, 51, 112, 105]
def okP (a b : Int) : Bool :=
 (a == 0 && [49, 50, 51, 112, 108, 116, 107].contains b) || ([49, 50, 51, 112, 99, 110, 101, 115, 105].contains a && [46, 101, 115, 110].contains b)
  || (a == 105 && b == 108) || (a == 108 && b == 105) || (a == 116 && b == 114) || (a == 114 && b == 99)
def mayP (r : List Opn) (k : Int) : Bool :=
 if !okP (topP r).kind k || ((topP r).kind == 105 && (topP r).past && k != 108) then false
 else if k == 101 || k == 115 then hasP k r == 0
 else if k == 99 then decide ((topP r).kids < 8)
 else if k == 110 then hasP 110 r == 0 && hasP 99 r == 0 && (match aroundP flowK r r.length with | some j => (r.getD j zOpn).note == 0 | none => false)
 else true
def kidF (o : Opn) : Opn := { o with kids := wrap64 (o.kids + 1) }
def noteF (o : Opn) : Opn := { o with note := wrap64 (o.note + 1) }
def pastF (o : Opn) : Opn := { o with past := true }
def textF (n : Int) (o : Opn) : Opn := { o with text := wrap64 (o.text + n) }
def colsF (n : Int) (o : Opn) : Opn := { o with cols := n }
def sizeF (n : Int) (y : S56) : S56 := { y with f3 := n }
def kidP (r : List Opn) : List Opn := r.modify (r.length - 1) kidF
def addP (s : Bld) (x : S56) : Bld × Int := (⟨kidP s.row, s.t ++ [x]⟩, if 2000 < s.t.length + 1 then 4 else 0)
def markP (r : List Opn) (k : Int) : List Opn :=
 if k = 110 then (match aroundP flowK r r.length with | some j => r.modify j noteF | none => r)
 else if k = 108 then r.modify (r.length - 1) pastF else r
def opensP (s : Bld) (x : S47) : Bld × Int × Int :=
 if mayP s.row x.f1 then
  (⟨kidP (markP s.row x.f1) ++ [⟨x.f1, s.t.length, 0, 0, false, 0, 0⟩], s.t ++ [⟨x.f1, ⟨#[]⟩, x.f3, 1⟩]⟩, x.f3,
   if 32 < s.row.length + 1 ∨ 8 < hasP 108 (kidP (markP s.row x.f1) ++ [⟨x.f1, s.t.length, 0, 0, false, 0, 0⟩]) then 5 else if 2000 < s.t.length + 1 then 4 else 0)
 else (s, x.f3, 2)
def whiteT (c : Int) : Bool := c == 32 || c == 10
def blackP (b : ByteArray) : Nat → Nat → Nat
 | 0, k => k
 | d + 1, k => if k < b.size then (if whiteT (bt b k) then blackP b d (k + 1) else k) else k
def textsP (s : Bld) (x : S47) : Bld × Int × Int :=
 if mayP s.row 46 then
  match aroundP [110] (kidP s.row) (kidP s.row).length with
  | some j => (⟨(kidP s.row).modify j (textF x.f2.size), s.t ++ [⟨46, x.f2, x.f3, 1⟩]⟩, x.f3,
    if 60 < wrap64 (((kidP s.row).getD j zOpn).text + x.f2.size) ∨ 2000 < s.t.length + 1 then 4 else 0)
  | none => (⟨kidP s.row, s.t ++ [⟨46, x.f2, x.f3, 1⟩]⟩, x.f3, if 2000 < s.t.length + 1 then 4 else 0)
 else if blackP x.f2 x.f2.size 0 < x.f2.size then (s, wrap64 (x.f3 + blackP x.f2 x.f2.size 0), 2) else (s, x.f3, 0)
def wholeP (r : List Opn) (o : Opn) : List Opn × Bool :=
 if o.kind = 108 ∨ o.kind = 116 then (r, decide (0 < o.kids))
 else if o.kind = 114 then
  match aroundP [116] r r.length with
  | some j => if (r.getD j zOpn).cols = 0 then (r.modify j (colsF o.kids), decide (0 < o.kids)) else (r, decide (0 < o.kids) && o.kids == (r.getD j zOpn).cols)
  | none => (r, false)
 else (r, true)
def shutsP (s : Bld) (x : S47) : Bld × Int × Int :=
 if s.row = [] then (s, x.f3, 2)
 else (⟨(wholeP s.row.dropLast (topP s.row)).1, s.t.modify (topP s.row).pos.toNat (sizeF (s.t.length - (topP s.row).pos))⟩, x.f3, if (wholeP s.row.dropLast (topP s.row)).2 then 0 else 2)
def stepP (s : Bld) (x : S47) : Bld × Int × Int := if x.f0 = 1 then textsP s x else if x.f0 = 2 then opensP s x else shutsP s x
def runP : Bld → List S47 → Bld × Int × Int
 | s, [] => (s, 0, 0)
 | s, x :: l => if (stepP s x).2.2 = 0 then runP (stepP s x).1 l else stepP s x
def bld0 : Bld := ⟨[], []⟩
def shO (n : Nat) (o : Opn) : Opn := { o with pos := o.pos + n }
def shN (d : Int) (y : S56) : S56 := { y with f2 := y.f2 + d }
def shX (d : Int) (x : S47) : S47 := { x with f3 := x.f3 + d }
def shB (T : List S56) (d : Int) (s : Bld) : Bld := ⟨s.row.map (shO T.length), T ++ s.t.map (shN d)⟩
theorem topP_sh (n : Nat) (r : List Opn) (h : r ≠ []) : topP (r.map (shO n)) = shO n (topP r) := by
 unfold topP
 rw [List.getLast?_map, List.getLast?_eq_some_getLast h]
 rfl
theorem topP_all (n : Nat) (r : List Opn) : (topP (r.map (shO n))).kind = (topP r).kind ∧ (topP (r.map (shO n))).past = (topP r).past ∧ (topP (r.map (shO n))).kids = (topP r).kids := by
 by_cases h : r = []
 ·subst h; exact ⟨rfl, rfl, rfl⟩
 ·rw [topP_sh n r h]; exact ⟨rfl, rfl, rfl⟩
theorem hasP_sh (n : Nat) (k : Int) (r : List Opn) : hasP k (r.map (shO n)) = hasP k r := by
 unfold hasP
 rw [List.filter_map, List.length_map]
 rfl
theorem getD_sh (n : Nat) (r : List Opn) (j : Nat) (h : j < r.length) : (r.map (shO n)).getD j zOpn = shO n (r.getD j zOpn) := by
 simp [List.getD_eq_getElem?_getD, List.getElem?_eq_getElem h]
theorem aroundP_lt (ks : List Int) (r : List Opn) : ∀ (n j : Nat), aroundP ks r n = some j → j < n
 | 0, j, h => by simp [aroundP] at h
 | n + 1, j, h => by
  simp only [aroundP] at h
  split at h
  ·simp only [Option.some.injEq] at h; omega
  ·have := aroundP_lt ks r n j h; omega
theorem aroundP_sh (n : Nat) (ks : List Int) (r : List Opn) : ∀ m, m ≤ r.length → aroundP ks (r.map (shO n)) m = aroundP ks r m
 | 0, _ => rfl
 | m + 1, h => by
  simp only [aroundP]
  rw [getD_sh n r m (by omega), aroundP_sh n ks r m (by omega)]
  rfl
theorem modify_sh (n : Nat) (r : List Opn) (f : Opn → Opn) (hf : ∀ o, shO n (f o) = f (shO n o)) (j : Nat) : (r.map (shO n)).modify j f = (r.modify j f).map (shO n) := by
 apply List.ext_getElem?
 intro i
 simp only [List.getElem?_map, List.getElem?_modify]
 cases r[i]? with
 | none => rfl
 | some o => simp only [Option.map_some, Option.some.injEq]; split <;> simp [hf]
theorem mayP_sh (n : Nat) (r : List Opn) (k : Int) : mayP (r.map (shO n)) k = mayP r k := by
 obtain ⟨h1, h2, h3⟩ := topP_all n r
 unfold mayP
 rw [h1, h2, h3, hasP_sh, hasP_sh, hasP_sh, List.length_map, aroundP_sh n _ _ _ (Nat.le_refl _)]
 cases h : aroundP flowK r r.length with
 | none => rfl
 | some j => simp only [getD_sh n r j (aroundP_lt _ _ _ _ h)]; rfl
theorem kidP_sh (n : Nat) (r : List Opn) : kidP (r.map (shO n)) = (kidP r).map (shO n) := by
 unfold kidP
 rw [List.length_map]
 exact modify_sh n r kidF (fun _ => rfl) _
theorem kidP_length (r : List Opn) : (kidP r).length = r.length := by simp [kidP]
theorem markP_sh (n : Nat) (r : List Opn) (k : Int) : markP (r.map (shO n)) k = (markP r k).map (shO n) := by
 unfold markP
 rw [List.length_map, aroundP_sh n _ _ _ (Nat.le_refl _)]
 split
 ·cases aroundP flowK r r.length with
  | none => rfl
  | some j => exact modify_sh n r noteF (fun _ => rfl) _
 ·split
  ·exact modify_sh n r pastF (fun _ => rfl) _
  ·rfl
theorem markP_length (r : List Opn) (k : Int) : (markP r k).length = r.length := by
 unfold markP
 split
 ·split <;> simp
 ·split <;> simp
theorem wholeP_sh (n : Nat) (r : List Opn) (o : Opn) : wholeP (r.map (shO n)) (shO n o) = ((wholeP r o).1.map (shO n), (wholeP r o).2) := by
 have e1 : (shO n o).kind = o.kind := rfl
 have e2 : (shO n o).kids = o.kids := rfl
 unfold wholeP
 rw [List.length_map, aroundP_sh n _ _ _ (Nat.le_refl _), e1, e2]
 by_cases h1 : o.kind = 108 ∨ o.kind = 116
 ·rw [if_pos h1, if_pos h1]
 ·rw [if_neg h1, if_neg h1]
  by_cases h2 : o.kind = 114
  ·rw [if_pos h2, if_pos h2]
   cases h : aroundP [116] r r.length with
   | none => rfl
   | some j =>
    simp only [getD_sh n r j (aroundP_lt _ _ _ _ h)]
    have e3 : (shO n (r.getD j zOpn)).cols = (r.getD j zOpn).cols := rfl
    rw [e3]
    by_cases h3 : (r.getD j zOpn).cols = 0
    ·rw [if_pos h3, if_pos h3]
     simp only [Prod.mk.injEq, and_true]
     exact modify_sh n r (colsF o.kids) (fun _ => rfl) _
    ·rw [if_neg h3, if_neg h3]
  ·rw [if_neg h2, if_neg h2]
theorem modify_app (T l : List S56) (p : Nat) (f : S56 → S56) : (T ++ l).modify (T.length + p) f = T ++ l.modify p f := by
 induction T with
 | nil => simp
 | cons a T ih =>
  rw [show (a :: T).length + p = (T.length + p) + 1 from by simp; omega]
  simp only [List.cons_append, List.modify_succ_cons, ih]
theorem modify_map (l : List S56) (f g : S56 → S56) {d : Int} {p : Nat} (h : ∀ y, g (shN d y) = shN d (f y)) : (l.map (shN d)).modify p g = (l.modify p f).map (shN d) := by
 apply List.ext_getElem?
 intro i
 simp only [List.getElem?_map, List.getElem?_modify]
 cases l[i]? with
 | none => rfl
 | some o => simp only [Option.map_some]; split <;> simp [h]
def PosIn (s : Bld) : Prop := ∀ o ∈ s.row, 0 ≤ o.pos ∧ o.pos < (s.t.length : Int)
theorem mem_modify {α : Type} {l : List α} {f : α → α} {j : Nat} {x : α} (h : x ∈ l.modify j f) : ∃ y ∈ l, x = y ∨ x = f y := by
 rw [List.mem_iff_getElem?] at h
 obtain ⟨i, hi⟩ := h
 rw [List.getElem?_modify] at hi
 cases hl : l[i]? with
 | none => rw [hl] at hi; simp at hi
 | some y =>
  rw [hl] at hi
  simp only [Option.map_eq_map, Option.map_some, Option.some.injEq] at hi
  refine ⟨y, List.mem_of_getElem? hl, ?_⟩
  split at hi
  ·exact .inr hi.symm
  ·exact .inl hi.symm
theorem pos_modify {l : List Opn} {f : Opn → Opn} (hf : ∀ o, (f o).pos = o.pos) {P : Int → Prop} (h : ∀ o ∈ l, P o.pos) (j : Nat) : ∀ o ∈ l.modify j f, P o.pos := by
 intro o ho
 obtain ⟨y, hy, rfl | rfl⟩ := mem_modify ho
 ·exact h _ hy
 ·rw [hf]; exact h _ hy
theorem pos_kidP {r : List Opn} {P : Int → Prop} (h : ∀ o ∈ r, P o.pos) : ∀ o ∈ kidP r, P o.pos := by
 unfold kidP
 exact pos_modify (f := kidF) (fun _ => rfl) h _
theorem pos_markP {r : List Opn} {P : Int → Prop} (h : ∀ o ∈ r, P o.pos) (k : Int) : ∀ o ∈ markP r k, P o.pos := by
 unfold markP
 split
 ·split
  ·exact pos_modify (f := noteF) (fun _ => rfl) h _
  ·exact h
 ·split
  ·exact pos_modify (f := pastF) (fun _ => rfl) h _
  ·exact h
theorem pos_wholeP {r : List Opn} {P : Int → Prop} (h : ∀ o ∈ r, P o.pos) (x : Opn) : ∀ o ∈ (wholeP r x).1, P o.pos := by
 unfold wholeP
 split
 ·exact h
 ·split
  ·split
   ·split
    ·exact pos_modify (f := colsF x.kids) (fun _ => rfl) h _
    ·exact h
   ·exact h
  ·exact h
theorem stepP_pos (s : Bld) (x : S47) (h : PosIn s) : PosIn (stepP s x).1 := by
 have up : ∀ {r : List Opn}, (∀ o ∈ r, 0 ≤ o.pos ∧ o.pos < (s.t.length : Int)) → ∀ (y : S56) (o : Opn), o ∈ r → 0 ≤ o.pos ∧ o.pos < ((s.t ++ [y]).length : Int) := fun hr y o ho => by
  have := hr o ho
  simp only [List.length_append, List.length_cons, List.length_nil]
  omega
 unfold stepP
 split
 ·unfold textsP
  split
  ·split
   ·exact fun o ho => up (pos_modify (f := textF x.f2.size) (P := fun p => 0 ≤ p ∧ p < (s.t.length : Int)) (fun _ => rfl) (pos_kidP (P := fun p => 0 ≤ p ∧ p < (s.t.length : Int)) h) _) _ o ho
   ·exact fun o ho => up (pos_kidP (P := fun p => 0 ≤ p ∧ p < (s.t.length : Int)) h) _ o ho
  ·split <;> exact h
 ·split
  ·unfold opensP
   split
   ·intro o ho
    simp only [List.mem_append, List.mem_singleton] at ho
    rcases ho with ho | rfl
    ·exact up (pos_kidP (P := fun p => 0 ≤ p ∧ p < (s.t.length : Int)) (pos_markP (P := fun p => 0 ≤ p ∧ p < (s.t.length : Int)) h _)) _ o ho
    ·simp only [List.length_append, List.length_cons, List.length_nil]; omega
   ·exact h
  ·unfold shutsP
   split
   ·exact h
   ·intro o ho
    simp only [List.length_modify]
    exact pos_wholeP (P := fun p => 0 ≤ p ∧ p < (s.t.length : Int)) (fun o ho => h o (List.dropLast_subset _ ho)) _ o ho
theorem stepP_len (s : Bld) (x : S47) : s.t.length ≤ (stepP s x).1.t.length := by
 unfold stepP
 split
 ·unfold textsP
  split
  ·split <;> simp
  ·split <;> simp
 ·split
  ·unfold opensP
   split <;> simp
  ·unfold shutsP
   split <;> simp
theorem runP_len : ∀ (l : List S47) (s : Bld), s.t.length ≤ (runP s l).1.t.length
 | [], s => Nat.le_refl _
 | x :: l, s => by
  have h1 := stepP_len s x
  simp only [runP]
  split
  ·exact Nat.le_trans h1 (runP_len l _)
  ·exact h1
theorem stepP_sh (T : List S56) (d : Int) (s : Bld) (x : S47) (hp : PosIn s) (h : (stepP s x).2.2 = 0) (hn : T.length + (stepP s x).1.t.length ≤ 2000) :
  stepP (shB T d s) (shX d x) = (shB T d (stepP s x).1, (shX d ⟨0, 0, ⟨#[]⟩, (stepP s x).2.1⟩).f3, 0) := by
 have e0 : (shX d x).f0 = x.f0 := rfl
 have e1 : (shX d x).f1 = x.f1 := rfl
 have e2 : (shX d x).f2 = x.f2 := rfl
 have er : (shB T d s).row = s.row.map (shO T.length) := rfl
 have et : (shB T d s).t = T ++ s.t.map (shN d) := rfl
 unfold stepP at h hn ⊢
 rw [e0]
 by_cases h1 : x.f0 = 1
 ·simp only [if_pos h1] at h hn ⊢
  unfold textsP at h hn ⊢
  rw [er, et, mayP_sh, e2, kidP_sh, List.length_map, aroundP_sh _ _ _ _ (Nat.le_refl _)]
  by_cases hm : mayP s.row 46 = true
  ·simp only [if_pos hm] at h hn ⊢
   cases ha : aroundP [110] (kidP s.row) (kidP s.row).length with
   | none =>
    simp only [ha] at h hn ⊢
    simp only [List.length_append, List.length_map, List.length_cons, List.length_nil] at hn ⊢
    rw [if_neg (by omega)]
    simp only [shB, List.map_append, List.append_assoc, List.map_cons, List.map_nil]
    rfl
   | some j =>
    simp only [ha] at h hn ⊢
    simp only [getD_sh _ _ j (aroundP_lt _ _ _ _ ha)]
    simp only [List.length_append, List.length_map, List.length_cons, List.length_nil] at hn ⊢
    have h60 : ¬ (60 < wrap64 (((kidP s.row).getD j zOpn).text + x.f2.size)) := fun hc => by
     rw [if_pos (.inl hc)] at h; cases h
    rw [if_neg (fun hc => hc.elim h60 (by omega))]
    simp only [shB, List.map_append, List.append_assoc, List.map_cons, List.map_nil]
    rw [modify_sh _ _ (textF x.f2.size) (fun _ => rfl)]
    rfl
  ·simp only [if_neg hm] at h hn ⊢
   by_cases hb : blackP x.f2 x.f2.size 0 < x.f2.size
   ·simp only [if_pos hb] at h; cases h
   ·simp only [if_neg hb]; rfl
 ·simp only [if_neg h1] at h hn ⊢
  by_cases h2 : x.f0 = 2
  ·simp only [if_pos h2] at h hn ⊢
   unfold opensP at h hn ⊢
   rw [er, et, mayP_sh, e1, markP_sh, kidP_sh]
   by_cases hm : mayP s.row x.f1 = true
   ·simp only [if_pos hm] at h hn ⊢
    have ho : ((kidP (markP s.row x.f1)).map (shO T.length) ++ [(⟨x.f1, ((T ++ s.t.map (shN d)).length : Int), 0, 0, false, 0, 0⟩ : Opn)]) = (kidP (markP s.row x.f1) ++ [(⟨x.f1, s.t.length, 0, 0, false, 0, 0⟩ : Opn)]).map (shO T.length) := by
     simp only [List.map_append, List.map_cons, List.map_nil, shO, List.length_append, List.length_map, List.append_cancel_left_eq, List.cons.injEq, and_true, Opn.mk.injEq, true_and]
     omega
    rw [ho, hasP_sh]
    simp only [List.length_append, List.length_map, List.length_cons, List.length_nil] at hn ⊢
    have hd : ¬ (32 < s.row.length + 1 ∨ 8 < hasP 108 (kidP (markP s.row x.f1) ++ [⟨x.f1, s.t.length, 0, 0, false, 0, 0⟩])) := fun hc => by
     rw [if_pos hc] at h; cases h
    rw [if_neg hd, if_neg (by omega)]
    simp only [shB, List.map_append, List.append_assoc, List.map_cons, List.map_nil]
    rfl
   ·simp only [if_neg hm] at h; cases h
  ·simp only [if_neg h2] at h hn ⊢
   unfold shutsP at h hn ⊢
   rw [er, et]
   by_cases hr : s.row = []
   ·simp only [if_pos hr] at h; cases h
   ·simp only [if_neg hr] at h hn ⊢
    rw [if_neg (by simpa using hr)]
    have hw : (wholeP s.row.dropLast (topP s.row)).2 = true := by
     cases hc : (wholeP s.row.dropLast (topP s.row)).2 with
     | true => rfl
     | false => rw [hc] at h; cases h
    rw [topP_sh _ _ hr, show (List.map (shO T.length) s.row).dropLast = s.row.dropLast.map (shO T.length) from by rw [List.map_dropLast], wholeP_sh]
    simp only [hw, if_true]
    have hmem : topP s.row ∈ s.row := by
     unfold topP
     rw [List.getLast?_eq_some_getLast hr]
     exact List.getLast_mem hr
    have hpp := hp _ hmem
    simp only [shB, Prod.mk.injEq, Bld.mk.injEq, true_and, and_true]
    refine ⟨?_, rfl⟩
    obtain ⟨p, hpe⟩ : ∃ p : Nat, (topP s.row).pos = (p : Int) := ⟨(topP s.row).pos.toNat, by omega⟩
    have hpl : p < s.t.length := by omega
    have hsp : (shO T.length (topP s.row)).pos = ((T.length + p : Nat) : Int) := by show (topP s.row).pos + _ = _; omega
    rw [hsp, hpe]
    simp only [Int.toNat_natCast, List.length_append, List.length_map]
    rw [modify_app, modify_map _ (sizeF ((s.t.length : Int) - (p : Int))) (sizeF (((T.length + s.t.length : Nat) : Int) - ((T.length + p : Nat) : Int)))]
    intro y
    unfold sizeF shN
    simp only [S56.mk.injEq, true_and]
    omega
theorem runP_sh (T : List S56) (d : Int) : ∀ (l : List S47) (s : Bld), PosIn s → (runP s l).2.2 = 0 → T.length + (runP s l).1.t.length ≤ 2000 → (runP (shB T d s) (l.map (shX d))).1 = shB T d (runP s l).1 ∧ (runP (shB T d s) (l.map (shX d))).2.2 = 0
 | [], s, _, _, _ => ⟨rfl, rfl⟩
 | x :: l, s, hp, h, hn => by
  simp only [runP, List.map_cons] at h hn ⊢
  have h0 : (stepP s x).2.2 = 0 := by
   by_cases h0 : (stepP s x).2.2 = 0
   ·exact h0
   ·rw [if_neg h0] at h; exact h
  rw [if_pos h0] at h hn ⊢
  have hl := runP_len l (stepP s x).1
  have hs := stepP_sh T d s x hp h0 (by omega)
  rw [hs]
  simp only [if_true]
  exact runP_sh T d l _ (stepP_pos s x hp) h hn
theorem runP_app : ∀ (l m : List S47) (s : Bld), (runP s l).2.2 = 0 → runP s (l ++ m) = runP (runP s l).1 m
 | [], m, s, _ => rfl
 | x :: l, m, s, h => by
  simp only [runP, List.cons_append] at h ⊢
  by_cases h0 : (stepP s x).2.2 = 0
  ·rw [if_pos h0] at h ⊢; rw [if_pos h0]; exact runP_app l m _ h
  ·rw [if_neg h0] at h; exact absurd h h0
def RChain (r : List Opn) : Prop := ∀ i : Nat, (r[i]?.map Opn.kind) = some (114 : Int) → 1 ≤ i ∧ (r[i - 1]?.map Opn.kind) = some (116 : Int)
theorem kinds_modify (r : List Opn) (f : Opn → Opn) (hf : ∀ o, (f o).kind = o.kind) (j i : Nat) : (r.modify j f)[i]?.map Opn.kind = r[i]?.map Opn.kind := by
 rw [List.getElem?_modify]
 cases r[i]? with
 | none => rfl
 | some o => simp only [Option.map_eq_map, Option.map_some, Option.some.injEq]; split <;> simp [hf]
theorem chain_congr {r r' : List Opn} (h : ∀ i : Nat, r'[i]?.map Opn.kind = r[i]?.map Opn.kind) (hr : RChain r) : RChain r' := by
 intro i hi
 rw [h] at hi
 rw [h]
 exact hr i hi
theorem kinds_kidP (r : List Opn) (i : Nat) : (kidP r)[i]?.map Opn.kind = r[i]?.map Opn.kind := kinds_modify r kidF (fun _ => rfl) _ i
theorem kinds_markP (r : List Opn) (k : Int) (i : Nat) : (markP r k)[i]?.map Opn.kind = r[i]?.map Opn.kind := by
 unfold markP
 split
 ·split
  ·exact kinds_modify r noteF (fun _ => rfl) _ i
  ·rfl
 ·split
  ·exact kinds_modify r pastF (fun _ => rfl) _ i
  ·rfl
theorem kinds_wholeP (r : List Opn) (o : Opn) (i : Nat) : ((wholeP r o).1)[i]?.map Opn.kind = r[i]?.map Opn.kind := by
 unfold wholeP
 split
 ·rfl
 ·split
  ·split
   ·split
    ·exact kinds_modify r (colsF o.kids) (fun _ => rfl) _ i
    ·rfl
   ·rfl
  ·rfl
theorem okP_114 {a : Int} (h : okP a 114 = true) : a = 116 := by
 unfold okP at h
 have e1 : ([49, 50, 51, 112, 108, 116, 107] : List Int).contains 114 = false := by decide
 have e2 : ([46, 101, 115, 110] : List Int).contains 114 = false := by decide
 have e3 : ((114 : Int) == 108) = false := by decide
 have e4 : ((114 : Int) == 105) = false := by decide
 have e5 : ((114 : Int) == 99) = false := by decide
 rw [e1, e2, e3, e4, e5] at h
 simpa using h
theorem mayP_ok {r : List Opn} {k : Int} (h : mayP r k = true) : okP (topP r).kind k = true := by
 unfold mayP at h
 cases ho : okP (topP r).kind k with
 | true => rfl
 | false => rw [ho] at h; simp at h
theorem chain_add {r : List Opn} {k : Int} {o : Opn} (hr : RChain r) (hk : o.kind = k) (hm : okP (topP r).kind k = true) : RChain (r ++ [o]) := by
 intro i hi
 by_cases h1 : i < r.length
 ·rw [List.getElem?_append_left h1] at hi
  obtain ⟨g1, g2⟩ := hr i hi
  exact ⟨g1, by rw [List.getElem?_append_left (by omega)]; exact g2⟩
 ·rw [List.getElem?_append_right (by omega)] at hi
  have h0 : i = r.length := by
   cases hd : i - r.length with
   | zero => omega
   | succ n => rw [hd] at hi; simp at hi
  subst h0
  simp only [Nat.sub_self, List.getElem?_cons_zero, Option.map_some, Option.some.injEq] at hi
  rw [← hk, hi] at hm
  have ht := okP_114 hm
  unfold topP at ht
  cases hl : r.getLast? with
  | none => rw [hl] at ht; exact absurd ht (by decide)
  | some y =>
   rw [hl] at ht
   rw [List.getLast?_eq_getElem?] at hl
   have : r.length - 1 < r.length := (List.getElem?_eq_some_iff.1 hl).1
   refine ⟨by omega, ?_⟩
   rw [List.getElem?_append_left this, hl]
   simp only [Option.map_some, Option.some.injEq]
   exact ht
theorem chain_drop {r : List Opn} (hr : RChain r) : RChain r.dropLast := by
 intro i hi
 rw [List.getElem?_dropLast] at hi
 split at hi
 ·obtain ⟨g1, g2⟩ := hr i hi
  exact ⟨g1, by rw [List.getElem?_dropLast, if_pos (by omega)]; exact g2⟩
 ·simp at hi
theorem stepP_chain (s : Bld) (x : S47) (h : RChain s.row) : RChain (stepP s x).1.row := by
 unfold stepP
 split
 ·unfold textsP
  split
  ·split
   ·exact chain_congr (fun i => (kinds_modify (kidP s.row) (textF x.f2.size) (fun _ => rfl) _ i).trans (kinds_kidP s.row i)) h
   ·exact chain_congr (kinds_kidP s.row) h
  ·split <;> exact h
 ·split
  ·unfold opensP
   split
   ·rename_i hm
    have hc : ∀ i, (kidP (markP s.row x.f1))[i]?.map Opn.kind = s.row[i]?.map Opn.kind := fun i => (kinds_kidP _ i).trans (kinds_markP _ _ i)
    refine chain_add (k := x.f1) (chain_congr hc h) rfl ?_
    have ht : (topP (kidP (markP s.row x.f1))).kind = (topP s.row).kind := by
     unfold topP
     rw [List.getLast?_eq_getElem?, List.getLast?_eq_getElem?, kidP_length, markP_length]
     have := hc (s.row.length - 1)
     cases h1 : (kidP (markP s.row x.f1))[s.row.length - 1]? with
     | none => rw [h1] at this; cases h2 : s.row[s.row.length - 1]? with
      | none => rfl
      | some y => rw [h2] at this; simp at this
     | some z => rw [h1] at this; cases h2 : s.row[s.row.length - 1]? with
      | none => rw [h2] at this; simp at this
      | some y => rw [h2] at this; simpa using this
    rw [ht]
    exact mayP_ok hm
   ·exact h
  ·unfold shutsP
   split
   ·exact h
   ·exact chain_congr (kinds_wholeP _ _) (chain_drop h)
theorem aroundP_some (ks : List Int) (r : List Opn) : ∀ (n j : Nat), j < n → ks.contains (r.getD j zOpn).kind = true → ∃ i, aroundP ks r n = some i
 | 0, j, h, _ => by omega
 | n + 1, j, h, hk => by
  simp only [aroundP]
  by_cases hc : ks.contains (r.getD n zOpn).kind = true
  ·rw [if_pos hc]; exact ⟨n, rfl⟩
  ·rw [if_neg hc]
   by_cases e : j = n
   ·subst e; exact absurd hk hc
   ·exact aroundP_some ks r n j (by omega) hk
theorem chain_table {r : List Opn} (hr : RChain r) (h1 : (topP r).kind = 114) : ∃ j, aroundP [116] r.dropLast r.dropLast.length = some j := by
 unfold topP at h1
 cases hl : r.getLast? with
 | none => rw [hl] at h1; exact absurd h1 (by decide)
 | some y =>
  rw [hl] at h1
  rw [List.getLast?_eq_getElem?] at hl
  obtain ⟨g1, g2⟩ := hr (r.length - 1) (by rw [hl]; simp only [Option.map_some, Option.some.injEq]; exact h1)
  have hlen : r.dropLast.length = r.length - 1 := by simp
  refine aroundP_some _ _ _ (r.length - 1 - 1) (by omega) ?_
  rw [List.getD_eq_getElem?_getD, List.getElem?_dropLast, if_pos (by omega)]
  cases hq : r[r.length - 1 - 1]? with
  | none => rw [hq] at g2; simp at g2
  | some z =>
   rw [hq] at g2
   simp only [Option.map_some, Option.some.injEq] at g2
   simp only [Option.getD_some]
   rw [g2]
   decide
end Go.Proofs.Ythcmfjpheanphaa.Pr
namespace Go.Det
open Go
variable {P : Program} {ops : Array Oper} {Q : Exit → Act → World → Prop} {S : World → Prop}
def NoOut : Exit → Act → World → Prop := fun _ _ _ => False
theorem noOut_lets : ¬ LetsOut NoOut := fun ⟨_, _, h⟩ => h
theorem upon_imp {o : Oper} {a : Act} {K K' : Act → World → Prop} {r : Result Next} (h : ∀ a w, K a w → K' a w) (hh : o.upon P a K NoOut r) : o.upon P a K' Q r := by
 cases r with
 | ok n w' =>
  cases n <;> simp only [Oper.upon] at hh ⊢ <;>
   first
    | exact h _ _ hh
    | exact Calls.mono hh (fun e w'' he => by cases e <;> first | exact h _ _ he | exact he.elim | exact (noOut_lets he).elim)
    | exact Rows.mono hh (fun _ _ he => h _ _ he)
 | halt x w' => cases x <;> simp only [Oper.upon] at hh ⊢ <;> exact hh.elim
theorem put_inj {a b : Act} {dst : Option Tmp} {u v : Value} (hs : b.tmps.size = a.tmps.size) (h : a.put dst u = a.put dst v) : b.put dst u = b.put dst v := by
 cases dst with
 | none => rfl
 | some d =>
  by_cases hd : d < a.tmps.size
  ·have h1 : (a.put (some d) u).tmps[d]? = (a.put (some d) v).tmps[d]? := by rw [h]
   simp only [Act.put, Array.getElem?_setIfInBounds, if_pos hd, if_true, Option.some.injEq] at h1
   rw [h1]
  ·simp only [Act.put]
   rw [Array.setIfInBounds_eq_of_size_le (by rw [hs]; exact Nat.le_of_not_lt hd), Array.setIfInBounds_eq_of_size_le (by rw [hs]; exact Nat.le_of_not_lt hd)]
theorem upon_same {o : Oper} {x y : Act} {v : Value} {r : Result Next} (hs : y.tmps.size = x.tmps.size) (hh : o.upon P x (fun a' w' => a' = x.put o.dst v ∧ S w') NoOut r) :
  o.upon P y (fun a' w' => a' = y.put o.dst v ∧ S w') NoOut r := by
 cases r with
 | ok n w' =>
  cases n <;> simp only [Oper.upon] at hh ⊢ <;>
   first
    | exact ⟨put_inj hs hh.1, hh.2⟩
    | exact Calls.mono hh (fun e w'' he => by cases e <;> first | exact ⟨put_inj hs he.1, he.2⟩ | exact he.elim | exact (noOut_lets he).elim)
    | exact Rows.mono hh (fun _ _ he => ⟨put_inj hs he.1, he.2⟩)
    | skip
  rename_i d
  exfalso
  have := congrArg (fun a : Act => a.defers.length) hh.1
  cases hd : o.dst <;> simp [hd, Act.put] at this
 | halt x w' => cases x <;> simp only [Oper.upon] at hh ⊢ <;> exact hh.elim
def StepV (P : Program) (ops : Array Oper) (S : World → Prop) (a : Act) (o : Oper) (v : Value) : Prop :=
 (Region.wanted o (yielded ops a.tmps) = true ∧ ∀ w, S w → o.wp P a w (fun a' w' => a' = a.put o.dst v ∧ S w') NoOut) ∨
 (Region.wanted o (yielded ops a.tmps) = false ∧ v = undef)
def SeqL (P : Program) (ops : Array Oper) (S : World → Prop) (R : Act → Prop) : List Oper → Act → Prop
 | [], a => R a
 | o :: rest, a => ∃ v, StepV P ops S a o v ∧ SeqL P ops S R rest (a.put o.dst v)
def okAt (ops : Array Oper) (i : Nat) (o : Oper) : Bool :=
 (o.after.all fun e => !Region.binds .any e || decide (e.on < i)) &&
 ((List.range ops.size).all fun j => match ops[j]? with
  | none => true
  | some oj =>
   (match oj.dst with
    | none => true
    | some t => (j == i || o.dst != some t) &&
     (!(o.looksAt ops).contains t || (o.after.any fun e => Region.binds .any e && e.on == j) || (j != i && oj.after.any fun e => Region.binds .any e && e.on == i)))) &&
 (match o.op with | .select _ _ => false | _ => true)
def okOps (ops : Array Oper) : Bool := (List.range ops.size).all fun i => match ops[i]? with | none => true | some o => okAt ops i o
structure Ok (ops : Array Oper) : Prop where
 back : ∀ (i : Nat) (o : Oper), ops[i]? = some o → ∀ e ∈ o.after, Region.binds .any e = true → e.on < i
 apart : ∀ (i : Nat) (o : Oper) (j : Nat) (oj : Oper) (t : Tmp), ops[i]? = some o → ops[j]? = some oj → oj.dst = some t → j ≠ i → o.dst ≠ some t
 reads : ∀ (i : Nat) (o : Oper) (j : Nat) (oj : Oper) (t : Tmp), ops[i]? = some o → ops[j]? = some oj → oj.dst = some t → t ∈ o.looksAt ops →
  (∃ e ∈ o.after, Region.binds .any e = true ∧ e.on = j) ∨ (j ≠ i ∧ ∃ e ∈ oj.after, Region.binds .any e = true ∧ e.on = i)
 plain : ∀ (i : Nat) (o : Oper), ops[i]? = some o → ∀ cs b, o.op ≠ .select cs b
theorem lt_of_some {i : Nat} {o : Oper} (h : ops[i]? = some o) : i < ops.size := (Array.getElem?_eq_some_iff.1 h).1
theorem okOps_spec (h : okOps ops = true) : Ok ops := by
 have hat : ∀ (i : Nat) (o : Oper), ops[i]? = some o → okAt ops i o = true := fun i o hi => by
  have := List.all_eq_true.1 h i (List.mem_range.2 (lt_of_some hi))
  simpa [hi] using this
 have pair : ∀ (i : Nat) (o : Oper) (j : Nat) (oj : Oper) (t : Tmp), ops[i]? = some o → ops[j]? = some oj → oj.dst = some t → ((j == i || o.dst != some t) &&
     (!(o.looksAt ops).contains t || (o.after.any fun e => Region.binds .any e && e.on == j) || (j != i && oj.after.any fun e => Region.binds .any e && e.on == i))) = true := fun i o j oj t hi hj hd => by
  have := hat i o hi
  simp only [okAt, Bool.and_eq_true] at this
  have h2 := List.all_eq_true.1 this.1.2 j (List.mem_range.2 (lt_of_some hj))
  simp only [hj, hd] at h2
  exact h2
 refine ⟨fun i o hi e he hbe => ?_, fun i o j oj t hi hj hd hne => ?_, fun i o j oj t hi hj hd ht => ?_, fun i o hi cs b hs => ?_⟩
 ·have := hat i o hi
  simp only [okAt, Bool.and_eq_true] at this
  have := (Array.all_eq_true_iff_forall_mem.1 this.1.1) e he
  simpa [hbe] using this
 ·have := pair i o j oj t hi hj hd
  simp only [Bool.and_eq_true, Bool.or_eq_true, beq_iff_eq, bne_iff_ne] at this
  rcases this.1 with h1 | h1
  ·exact absurd h1 hne
  ·exact h1
 ·have := pair i o j oj t hi hj hd
  simp only [Bool.and_eq_true, Bool.or_eq_true, beq_iff_eq, bne_iff_ne, Bool.not_eq_true', Array.any_eq_true'] at this
  rcases this.2 with (h1 | h1) | ⟨h0, h1⟩
  ·rw [List.contains_eq_mem] at h1
   simp [ht] at h1
  ·obtain ⟨e, he, h2⟩ := h1
   exact .inl ⟨e, he, by simpa using h2⟩
  ·obtain ⟨e, he, h2⟩ := h1
   exact .inr ⟨h0, e, he, by simpa using h2⟩
 ·have := hat i o hi
  simp only [okAt, Bool.and_eq_true, hs] at this
  exact absurd this.2 (by simp)
def Fr (ops : Array Oper) (val : Nat → Value) (a : Act) (L : Nat → Bool) (x : Act) : Prop :=
 x.defers = a.defers ∧ x.tmps.size = a.tmps.size ∧ ∀ t, t < a.tmps.size →
  (∀ i o, ops[i]? = some o → L i = true → o.dst = some t → x.tmps[t]? = some (val i)) ∧
  ((∀ i o, ops[i]? = some o → L i = true → o.dst ≠ some t) → x.tmps[t]? = a.tmps[t]?)
theorem fr_start (val : Nat → Value) (a : Act) (L : Nat → Bool) (h : ∀ i, i < ops.size → L i = false) : Fr ops val a L a :=
 ⟨rfl, rfl, fun t ht => ⟨fun i o hi hl => (by rw [h i (lt_of_some hi)] at hl; exact absurd hl (by simp)), fun _ => rfl⟩⟩
theorem fr_congr {val val' : Nat → Value} {a x : Act} {L L' : Nat → Bool} (h : Fr ops val a L x) (hL : ∀ i, i < ops.size → L' i = L i) (hv : ∀ i, L i = true → val' i = val i) : Fr ops val' a L' x :=
 ⟨h.1, h.2.1, fun t ht => ⟨fun i o hi hl hd => by
   have hl' : L i = true := by rw [← hL i (lt_of_some hi)]; exact hl
   rw [hv i hl']; exact (h.2.2 t ht).1 i o hi hl' hd,
  fun hn => (h.2.2 t ht).2 fun i o hi hl => hn i o hi (by rw [hL i (lt_of_some hi)]; exact hl)⟩⟩
theorem fr_put (ok : Ok ops) {val : Nat → Value} {a x : Act} {L L' : Nat → Bool} {i : Nat} {o : Oper} (hi : ops[i]? = some o) (h : Fr ops val a L x)
  (hL : ∀ j, j < ops.size → L' j = (L j || j == i)) : Fr ops val a L' (x.put o.dst (val i)) := by
 obtain ⟨h1, h2, h3⟩ := h
 cases hd : o.dst with
 | none =>
  refine ⟨h1, h2, fun t ht => ⟨fun j oj hj hl hdj => ?_, fun hn => ?_⟩⟩
  ·rw [hL j (lt_of_some hj)] at hl
   rcases Bool.or_eq_true .. ▸ hl with hl | hl
   ·exact (h3 t ht).1 j oj hj hl hdj
   ·have : j = i := by simpa using hl
    subst this
    rw [hi] at hj
    cases hj
    rw [hd] at hdj
    cases hdj
  ·exact (h3 t ht).2 fun j oj hj hl => hn j oj hj (by rw [hL j (lt_of_some hj), hl]; rfl)
 | some d =>
  refine ⟨h1, by simp [Act.put, h2], fun t ht => ?_⟩
  by_cases htd : d = t
  ·subst htd
   have hv : (x.put (some d) (val i)).tmps[d]? = some (val i) := by simp [Act.put, h2, ht]
   refine ⟨fun j oj hj hl hdj => ?_, fun hn => absurd hd (hn i o hi (by rw [hL i (lt_of_some hi)]; simp))⟩
   by_cases hji : j = i
   ·subst hji; exact hv
   ·exact absurd hd (ok.apart i o j oj d hi hj hdj hji)
  ·have hv : (x.put (some d) (val i)).tmps[t]? = x.tmps[t]? := by simp [Act.put, Array.getElem?_setIfInBounds_ne htd]
   rw [hv]
   refine ⟨fun j oj hj hl hdj => ?_, fun hn => (h3 t ht).2 fun j oj hj hl => hn j oj hj (by rw [hL j (lt_of_some hj), hl]; rfl)⟩
   rw [hL j (lt_of_some hj)] at hl
   rcases Bool.or_eq_true .. ▸ hl with hl | hl
   ·exact (h3 t ht).1 j oj hj hl hdj
   ·have : j = i := by simpa using hl
    subst this
    rw [hi] at hj
    cases hj
    rw [hd] at hdj
    cases hdj
    exact absurd rfl htd
theorem fr_same {val : Nat → Value} {a x y : Act} {L L' : Nat → Bool} (hx : Fr ops val a L x) (hy : Fr ops val a L' y) (t : Tmp)
  (h : ∀ j oj, ops[j]? = some oj → oj.dst = some t → L j = L' j) : x.tmps[t]? = y.tmps[t]? := by
 by_cases ht : t < a.tmps.size
 ·by_cases hex : ∃ j oj, ops[j]? = some oj ∧ L j = true ∧ oj.dst = some t
  ·obtain ⟨j, oj, hj, hl, hd⟩ := hex
   rw [(hx.2.2 t ht).1 j oj hj hl hd, (hy.2.2 t ht).1 j oj hj (by rw [← h j oj hj hd]; exact hl) hd]
  ·have hn : ∀ j oj, ops[j]? = some oj → L j = true → oj.dst ≠ some t := fun j oj hj hl hd => hex ⟨j, oj, hj, hl, hd⟩
   rw [(hx.2.2 t ht).2 hn, (hy.2.2 t ht).2 fun j oj hj hl hd => hn j oj hj (by rw [h j oj hj hd]; exact hl) hd]
 ·rw [Array.getElem?_eq_none (by rw [hx.2.1]; exact Nat.le_of_not_lt ht), Array.getElem?_eq_none (by rw [hy.2.1]; exact Nat.le_of_not_lt ht)]
theorem fr_eq {val : Nat → Value} {a x y : Act} {L L' : Nat → Bool} (hx : Fr ops val a L x) (hy : Fr ops val a L' y) (h : ∀ j, j < ops.size → L j = L' j) : x = y := by
 have h1 : x.tmps = y.tmps := Array.ext_getElem? fun t => fr_same hx hy t fun j oj hj _ => h j (lt_of_some hj)
 have h2 : x.defers = y.defers := hx.1.trans hy.1.symm
 cases x; cases y; simp_all
theorem step_same (ok : Ok ops) {val : Nat → Value} {a x y : Act} {L L' : Nat → Bool} {i : Nat} {o : Oper} {v : Value} (hi : ops[i]? = some o) (hx : Fr ops val a L x) (hy : Fr ops val a L' y)
  (h : ∀ j oj t, ops[j]? = some oj → oj.dst = some t → t ∈ o.looksAt ops → L j = L' j) (hs : StepV P ops S x o v) : StepV P ops S y o v := by
 have hev : execOp y.eval o = execOp x.eval o := execOp_congr o (ok.plain i o hi) fun z hz => by
  cases z with
  | tmp t =>
   have := fr_same hx hy t fun j oj hj hd => h j oj t hj hd (List.mem_append_left _ (List.mem_filterMap.2 ⟨.tmp t, by simpa using hz, rfl⟩))
   simp [Act.eval, Array.getD_eq_getD_getElem?, this]
  | _ => rfl
 have hw : Region.wanted o (yielded ops y.tmps) = Region.wanted o (yielded ops x.tmps) := by
  unfold Region.wanted
  cases hg : o.guard with
  | none => rfl
  | some gw =>
   obtain ⟨g, want⟩ := gw
   have : yielded ops y.tmps g = yielded ops x.tmps g := by
    unfold yielded
    cases ht : (ops[g]?).bind (·.dst) with
    | none => rfl
    | some t =>
     have := fr_same hx hy t fun j oj hj hd => h j oj t hj hd (by simp [Oper.looksAt, hg, ht])
     simp [this]
   simp only [this]
 have hsz : y.tmps.size = x.tmps.size := by rw [hx.2.1, hy.2.1]
 rcases hs with ⟨h1, h2⟩ | h1
 ·refine .inl ⟨by rw [hw]; exact h1, fun w hS => ?_⟩
  have := h2 w hS
  unfold Oper.wp at this ⊢
  rw [hev]
  exact upon_same hsz this
 ·exact .inr (by rw [hw]; exact h1)
def cnt (L : Nat → Bool) : Nat → Nat
 | 0 => 0
 | k + 1 => cnt L k + (if L k = true then 0 else 1)
theorem cnt_zero (L : Nat → Bool) : ∀ n, cnt L n = 0 → ∀ i, i < n → L i = true
 | 0, _, i, hi => absurd hi (by omega)
 | n + 1, h, i, hi => by
  simp only [cnt] at h
  by_cases hin : i = n
  ·subst hin
   by_cases hl : L i = true
   ·exact hl
   ·rw [if_neg hl] at h; omega
  ·exact cnt_zero L n (by omega) i (by omega)
theorem cnt_set (L L' : Nat → Bool) (i : Nat) (hi : L i = false) (hL : ∀ j, L' j = (L j || j == i)) : ∀ n, (i < n → cnt L' n + 1 = cnt L n) ∧ (n ≤ i → cnt L' n = cnt L n)
 | 0 => ⟨fun h => absurd h (by omega), fun _ => rfl⟩
 | n + 1 => by
  obtain ⟨h1, h2⟩ := cnt_set L L' i hi hL n
  simp only [cnt, hL n]
  refine ⟨fun h => ?_, fun h => ?_⟩
  ·by_cases hin : i = n
   ·subst hin
    rw [h2 (by omega), hi]
    simp
   ·have := h1 (by omega)
    simp only [show (n == i) = false by simpa using Ne.symm hin, Bool.or_false]
    omega
  ·rw [h2 (by omega)]
   simp only [show (n == i) = false by simp; omega, Bool.or_false]
def waits (ops : Array Oper) : Nat → Nat → Nat → Bool
 | 0, _, _ => false
 | n + 1, j, i => match ops[j]? with
  | none => false
  | some o => o.after.any fun e => Region.binds .any e && (e.on == i || waits ops n e.on i)
def tailOk (ops : Array Oper) (k : Nat) : Bool := (List.range ops.size).all fun j => decide (j < k) || (List.range j).all fun i => waits ops ops.size j i
theorem waits_listed {listed : Array Bool} (hcl : ∀ (i : Nat) (o : Oper), ops[i]? = some o → listed.getD i false = true → ∀ e ∈ o.after, Region.binds .any e = true → listed.getD e.on false = true) :
  ∀ (n j i : Nat), (∀ (o : Oper), ops[j]? = some o → ∀ e ∈ o.after, Region.binds .any e = true → listed.getD e.on false = true) → waits ops n j i = true → listed.getD i false = true
 | 0, j, i, _, h => by simp [waits] at h
 | n + 1, j, i, hj, h => by
  simp only [waits] at h
  split at h
  ·cases h
  ·rename_i o ho
   obtain ⟨e, he, h2⟩ := Array.any_eq_true'.1 h
   simp only [Bool.and_eq_true, Bool.or_eq_true, beq_iff_eq] at h2
   have hl := hj o ho e he h2.1
   rcases h2.2 with h3 | h3
   ·rw [← h3]; exact hl
   ·exact waits_listed hcl n e.on i (fun o' ho' => hcl e.on o' ho' hl) h3
theorem tail_waits {k : Nat} (ht : tailOk ops k = true) {j i : Nat} (hj : j < ops.size) (hk : k ≤ j) (hi : i < j) : waits ops ops.size j i = true := by
 have := List.all_eq_true.1 ht j (List.mem_range.2 hj)
 simp only [Bool.or_eq_true, decide_eq_true_eq] at this
 rcases this with h | h
 ·omega
 ·exact List.all_eq_true.1 h i (List.mem_range.2 hi)
theorem getD_lt {listed : Array Bool} {i : Nat} (h : i < listed.size) (d : Bool) : listed.getD i d = listed.getD i false := by
 simp [Array.getD_eq_getD_getElem?, Array.getElem?_eq_getElem h]
theorem ready_iff {listed : Array Bool} (hsz : listed.size = ops.size) {i : Nat} {o : Oper} (ho : ops[i]? = some o) :
  i ∈ Region.ready .any ops listed ↔ listed.getD i false = false ∧ ∀ e ∈ o.after, Region.binds .any e = true → listed.getD e.on false = true := by
 have hi : i < ops.size := lt_of_some ho
 unfold Region.ready
 rw [List.mem_filter, ho, getD_lt (by omega)]
 simp only [List.mem_range, hi, true_and, Bool.and_eq_true, Bool.not_eq_true', Option.map_some, Option.getD_some]
 rw [Array.all_eq_true_iff_forall_mem]
 refine and_congr Iff.rfl (forall_congr' fun e => forall_congr' fun he => ?_)
 cases Region.binds .any e <;> simp
theorem ready_lt {listed : Array Bool} {i : Nat} (h : i ∈ Region.ready .any ops listed) : i < ops.size := by
 unfold Region.ready at h
 rw [List.mem_filter] at h
 exact List.mem_range.1 h.1
theorem least_ready (ok : Ok ops) {listed : Array Bool} (hsz : listed.size = ops.size) (hr : Region.ready .any ops listed = []) (i : Nat) (hi : i < ops.size) : listed.getD i false = true := by
 induction i using Nat.strongRecOn with
 | ind i ih =>
  cases hl : listed.getD i false with
  | true => rfl
  | false =>
   exfalso
   have ho : ops[i]? = some ops[i] := Array.getElem?_eq_getElem hi
   have hmem := (ready_iff hsz ho).2 ⟨hl, fun e he hbe => by
    have hb := ok.back i _ ho e he hbe
    exact ih e.on hb (by omega)⟩
   rw [hr] at hmem
   cases hmem
theorem set_getD {listed : Array Bool} {i : Nat} (hil : i < listed.size) (j : Nat) : (listed.setIfInBounds i true).getD j false = (listed.getD j false || j == i) := by
 simp only [Array.getD_eq_getD_getElem?, Array.getElem?_setIfInBounds]
 by_cases hij : i = j
 ·subst hij; simp [hil]
 ·simp [hij, Ne.symm hij]
theorem drop_cons {m : Nat} {o : Oper} (ho : ops[m]? = some o) : ops.toList.drop m = o :: ops.toList.drop (m + 1) := by
 have hm : m < ops.toList.length := by simpa using lt_of_some ho
 rw [List.drop_eq_getElem_cons hm]
 congr 1
 have h1 : ops.toList[m]? = some o := by simpa using ho
 rw [List.getElem?_eq_getElem hm] at h1
 exact Option.some.inj h1
theorem any_tail (ok : Ok ops) {k : Nat} (ht : tailOk ops k = true) : ∀ (fuel m : Nat) (listed : Array Bool) (a : Act) (w : World), listed.size = ops.size → (∀ i, i < ops.size → listed.getD i false = decide (i < m)) →
  k ≤ m → m ≤ ops.size → ops.size ≤ fuel + m → wpList P ops Q (ops.toList.drop m) a w → wpAny P .any ops Q fuel listed a w := by
 intro fuel
 induction fuel with
 | zero =>
  intro m listed a w hsz hL hk hm hf h
  obtain rfl : m = ops.size := by omega
  rw [List.drop_eq_nil_of_le (by simp)] at h
  refine ⟨?_, h⟩
  rw [List.eq_nil_iff_forall_not_mem]
  intro i hi
  have hi' := ready_lt hi
  have := ((ready_iff hsz (Array.getElem?_eq_getElem hi')).1 hi).1
  rw [hL i hi'] at this
  simp at this
  omega
 | succ fuel ih =>
  intro m listed a w hsz hL hk hm hf h
  refine ⟨fun hr => ?_, fun i hi => ?_⟩
  ·have hms : m = ops.size := by
    rcases Nat.lt_or_ge m ops.size with h1 | h1
    ·have := least_ready ok hsz hr m h1
     rw [hL m h1] at this
     simp at this
    ·omega
   subst hms
   rw [List.drop_eq_nil_of_le (by simp)] at h
   exact h
  ·have hi' := ready_lt hi
   obtain ⟨h1, h2⟩ := (ready_iff hsz (Array.getElem?_eq_getElem hi')).1 hi
   rw [hL i hi'] at h1
   have hmi : m ≤ i := by simpa using h1
   have him : i = m := by
    rcases Nat.lt_or_ge m i with h3 | h3
    ·exfalso
     have hw := tail_waits ht hi' (by omega) h3
     have hcl : ∀ (j : Nat) (o : Oper), ops[j]? = some o → listed.getD j false = true → ∀ e ∈ o.after, Region.binds .any e = true → listed.getD e.on false = true := fun j o hj hl e he hbe => by
      have hb := ok.back j o hj e he hbe
      have hj' := lt_of_some hj
      rw [hL j hj'] at hl
      rw [hL e.on (by omega)]
      simp at hl ⊢
      omega
     have := waits_listed hcl ops.size i m (fun o ho e he hb => by
      rw [Array.getElem?_eq_getElem hi'] at ho
      cases ho
      exact h2 e he hb) hw
     rw [hL m (by omega)] at this
     simp at this
    ·omega
   subst him
   have ho : ops[i]? = some ops[i] := Array.getElem?_eq_getElem hi'
   rw [drop_cons ho] at h
   have hnext : ∀ a w, wpList P ops Q (ops.toList.drop (i + 1)) a w → wpAny P .any ops Q fuel (listed.setIfInBounds i true) a w := fun a w h' =>
    ih (i + 1) _ a w (by simpa using hsz) (fun j hj => by
     rw [set_getD (by omega), hL j hj, Bool.eq_iff_iff]; simp; omega) (by omega) (by omega) (by omega) h'
   unfold wpOp
   rw [ho]
   simp only
   unfold wpList at h
   split
   ·rename_i hw
    rw [if_pos hw] at h
    exact h.imp (Oper.wp_mono hnext) id
   ·rename_i hw
    rw [if_neg hw] at h
    exact hnext _ _ h
theorem any_det (ok : Ok ops) {k : Nat} (hkn : k ≤ ops.size) (ht : tailOk ops k = true) {val : Nat → Value} {a0 : Act} (hsteps : ∀ i o, i < k → ops[i]? = some o → ∃ x, Fr ops val a0 (fun j => decide (j < i)) x ∧ StepV P ops S x o (val i))
  (hend : ∀ x, Fr ops val a0 (fun j => decide (j < k)) x → ∀ w, S w → wpList P ops Q (ops.toList.drop k) x w) : ∀ (fuel : Nat) (listed : Array Bool) (a : Act) (w : World), listed.size = ops.size →
  cnt (fun i => listed.getD i false) ops.size ≤ fuel → (∀ i o, ops[i]? = some o → listed.getD i false = true → ∀ e ∈ o.after, Region.binds .any e = true → listed.getD e.on false = true) →
  (∀ i, i < ops.size → listed.getD i false = true → i < k) →
  Fr ops val a0 (fun i => listed.getD i false) a → S w → wpAny P .any ops Q fuel listed a w := by
 intro fuel
 induction fuel with
 | zero =>
  intro listed a w hsz hc hcl hlk hf hS
  have hall := cnt_zero _ _ (Nat.le_zero.1 hc)
  have hks : k = ops.size := by
   rcases Nat.lt_or_ge k ops.size with h | h
   ·have := hlk k h (hall k h); omega
   ·omega
  refine any_tail ok ht 0 k listed a w hsz (fun i hi => by rw [hall i hi]; simp; omega) (Nat.le_refl _) hkn (by omega) (hend a (fr_congr hf (fun j hj => ?_) (fun _ _ => rfl)) w hS)
  rw [hall j hj]; simp; omega
 | succ fuel ih =>
  intro listed a w hsz hc hcl hlk hf hS
  by_cases hdone : ∀ i, i < k → listed.getD i false = true
  ·have hL : ∀ i, i < ops.size → listed.getD i false = decide (i < k) := fun i hi => by
    by_cases hik : i < k
    ·rw [hdone i hik]; simp [hik]
    ·have : listed.getD i false ≠ true := fun h => hik (hlk i hi h)
     simp only [Bool.not_eq_true] at this
     rw [this]; simp [hik]
   have hcnt : ops.size ≤ cnt (fun i => listed.getD i false) ops.size + k := by
    have : ∀ n, n ≤ ops.size → n ≤ cnt (fun i => listed.getD i false) n + k := fun n => by
     induction n with
     | zero => intro _; omega
     | succ n ihn =>
      intro hn
      simp only [cnt]
      have := ihn (by omega)
      have hLn := hL n (by omega)
      by_cases hnk : n < k
      ·split <;> omega
      ·rw [if_neg (by rw [hLn]; simp [hnk])]
       omega
    exact this _ (Nat.le_refl _)
   exact any_tail ok ht (fuel + 1) k listed a w hsz hL (Nat.le_refl _) hkn (by omega) (hend a (fr_congr hf (fun j hj => (hL j hj).symm) (fun _ _ => rfl)) w hS)
  refine ⟨fun hr => absurd (fun i hi => least_ready ok hsz hr i (by omega)) hdone, fun i hi => ?_⟩
  have hin : i < ops.size := ready_lt hi
  have hil : i < listed.size := by omega
  obtain ⟨o, ho⟩ : ∃ o, ops[i]? = some o := ⟨_, Array.getElem?_eq_getElem hin⟩
  obtain ⟨hlf, hdeps⟩ := (ready_iff hsz ho).1 hi
  have hik : i < k := by
   rcases Nat.lt_or_ge i k with h | h
   ·exact h
   ·exfalso
    refine hdone fun j hj => ?_
    have hw := tail_waits ht hin h (show j < i by omega)
    exact waits_listed hcl ops.size i j (fun o' ho' e he hb => by
     rw [ho] at ho'
     cases ho'
     exact hdeps e he hb) hw
  have hset : ∀ j, (listed.setIfInBounds i true).getD j false = (listed.getD j false || j == i) := fun j => set_getD hil j
  obtain ⟨x, hfx, hsx⟩ := hsteps i o hik ho
  have hst : StepV P ops S a o (val i) := step_same ok ho hfx hf (fun j oj t hj hd ht => by
   rcases ok.reads i o j oj t ho hj hd ht with ⟨e, he, hb, rfl⟩ | ⟨hne, e, he, hb, hei⟩
   ·rw [hdeps e he hb]
    simpa using ok.back i o ho e he hb
   ·have hlt : i < j := hei ▸ ok.back j oj hj e he hb
    have : listed.getD j false = false := by
     cases hlj : listed.getD j false with
     | false => rfl
     | true =>
      have := hcl j oj hj hlj e he hb
      rw [hei, hlf] at this
      cases this
    rw [this]
    simp; omega) hsx
  have hnext : ∀ w', S w' → wpAny P .any ops Q fuel (listed.setIfInBounds i true) (a.put o.dst (val i)) w' := fun w' hS' => by
   refine ih _ _ _ (by simpa using hsz) ?_ ?_ ?_ ?_ hS'
   ·have := (cnt_set (fun j => listed.getD j false) (fun j => (listed.setIfInBounds i true).getD j false) i hlf hset ops.size).1 hin
    omega
   ·intro j oj hj hlj e he hb
    rw [hset] at hlj ⊢
    rcases Bool.or_eq_true .. ▸ hlj with h | h
    ·rw [hcl j oj hj h e he hb]; rfl
    ·have : j = i := by simpa using h
     subst this
     rw [ho] at hj
     cases hj
     rw [hdeps e he hb]; rfl
   ·intro j hj hlj
    rw [hset] at hlj
    rcases Bool.or_eq_true .. ▸ hlj with h | h
    ·exact hlk j hj h
    ·have : j = i := by simpa using h
     omega
   ·exact fr_put ok ho hf fun j _ => hset j
  unfold wpOp
  rw [ho]
  simp only
  rcases hst with ⟨hw, hrun⟩ | ⟨hw, hv⟩
  ·rw [if_pos hw]
   refine .inl ?_
   have := hrun w hS
   unfold Oper.wp at this ⊢
   exact upon_imp (fun a' w' ⟨ha', hS'⟩ => ha' ▸ hnext w' hS') this
  ·rw [if_neg (by rw [hw]; simp)]
   rw [← hv]
   exact hnext w hS
def SeqW (P : Program) (ops : Array Oper) (S : World → Prop) (d : List Deferred) (R : Array Value → Prop) : List Oper → Array Value → Prop
 | [], t => R t
 | o :: rest, t => ∃ t' : Array Value, (∀ w, S w → wpList P ops (fun e a' w' => e = .normal ∧ a' = { tmps := t', defers := d } ∧ S w') [o] { tmps := t, defers := d } w) ∧ SeqW P ops S d R rest t'
def putVal (dst : Option Tmp) (t : Array Value) : Value := match dst with | none => undef | some d => t.getD d undef
theorem put_putVal {t F : Array Value} {d : List Deferred} {dst : Option Tmp} {u : Value} (h : ({ tmps := t, defers := d } : Act).put dst u = { tmps := F, defers := d }) :
  ({ tmps := F, defers := d } : Act) = ({ tmps := t, defers := d } : Act).put dst (putVal dst F) := by
 cases dst with
 | none => exact h.symm
 | some x =>
  simp only [Act.put, Act.mk.injEq, and_true] at h ⊢
  subst h
  by_cases hd : x < t.size
  ·simp [putVal, Array.getD_eq_getD_getElem?, hd]
  ·have hd' : t.size ≤ x := Nat.le_of_not_lt hd
   rw [Array.setIfInBounds_eq_of_size_le hd', Array.setIfInBounds_eq_of_size_le hd']
theorem upon_some {o : Oper} {t F : Array Value} {d : List Deferred} {r : Result Next} (h : o.upon P { tmps := t, defers := d } (fun a' w' => a' = { tmps := F, defers := d } ∧ S w') NoOut r) :
  ({ tmps := F, defers := d } : Act) = ({ tmps := t, defers := d } : Act).put o.dst (putVal o.dst F) := by
 cases r with
 | ok n w' =>
  cases n <;> simp only [Oper.upon] at h <;>
   first
    | exact put_putVal h.1
    | (obtain ⟨e, w'', fr, he, _⟩ := h []
       cases e <;> first | exact put_putVal he.1 | exact he.elim | exact (noOut_lets he).elim)
    | (obtain ⟨v, w'', hv, _⟩ := h (Frame.enter P 0 #[] .normal) []
       exact put_putVal hv.1)
    | skip
  rename_i x
  exfalso
  have := congrArg (fun a : Act => a.defers.length) h.1
  cases hd : o.dst <;> simp [hd, Act.put] at this
 | halt x w' => cases x <;> simp only [Oper.upon] at h <;> exact h.elim
theorem wpList_one {o : Oper} {t F : Array Value} {d : List Deferred} {w : World} (h : wpList P ops (fun e a' w' => e = .normal ∧ a' = { tmps := F, defers := d } ∧ S w') [o] { tmps := t, defers := d } w) :
  (Region.wanted o (yielded ops t) = true ∧ o.wp P { tmps := t, defers := d } w (fun a' w' => a' = { tmps := F, defers := d } ∧ S w') NoOut) ∨
  (Region.wanted o (yielded ops t) = false ∧ ({ tmps := t, defers := d } : Act).put o.dst undef = { tmps := F, defers := d }) := by
 unfold wpList at h
 split at h
 ·rename_i hw
  refine .inl ⟨hw, ?_⟩
  rcases h with h | h
  ·unfold Oper.wp at h ⊢
   generalize (execOp ({ tmps := t, defers := d } : Act).eval o).run P w = r at *
   cases r with
   | ok n w' =>
    cases n <;> simp only [Oper.upon, wpList] at h ⊢ <;>
     first
      | exact h.2
      | exact Calls.mono h (fun e w'' he => by cases e <;> first | exact he.2 | exact absurd he.1 (by simp) | (obtain ⟨_, _, h1, _⟩ := he; exact absurd h1 (by simp)))
      | exact Rows.mono h (fun _ _ he => he.2)
   | halt x w' => cases x <;> simp only [Oper.upon] at h ⊢ <;> first | exact h.elim | exact absurd h.1 (by simp)
  ·obtain ⟨_, _, _, h1, _⟩ := h
   exact absurd h1 (by simp)
 ·rename_i hw
  simp only [wpList] at h
  exact .inr ⟨by simpa using hw, h.2.1⟩
theorem seqL_of_W {d : List Deferred} {R : Array Value → Prop} {w0 : World} (h0 : S w0) : ∀ (l : List Oper) (t : Array Value), SeqW P ops S d R l t → SeqL P ops S (fun a => ∃ t, a = { tmps := t, defers := d } ∧ R t) l { tmps := t, defers := d }
 | [], t, h => ⟨t, rfl, h⟩
 | o :: rest, t, h => by
  obtain ⟨F, hF, hr⟩ := h
  have hr' := seqL_of_W h0 rest F hr
  have h1 := wpList_one (hF w0 h0)
  cases hw : Region.wanted o (yielded ops t) with
  | true =>
   rw [hw] at h1
   rcases h1 with ⟨_, h1⟩ | ⟨h1, _⟩
   ·have e := upon_some h1
    refine ⟨putVal o.dst F, .inl ⟨hw, fun w hS => ?_⟩, e ▸ hr'⟩
    rcases wpList_one (hF w hS) with ⟨_, h2⟩ | ⟨h2, _⟩
    ·rw [e] at h2; exact h2
    ·rw [hw] at h2; cases h2
   ·cases h1
  | false =>
   rw [hw] at h1
   rcases h1 with ⟨h1, _⟩ | ⟨_, h1⟩
   ·cases h1
   ·exact ⟨undef, .inr ⟨hw, rfl⟩, h1 ▸ hr'⟩
theorem seq_split (ok : Ok ops) {a0 : Act} {R : Act → Prop} : ∀ (l : List Oper) (i : Nat) (val0 : Nat → Value) (a : Act), (∀ j o, l[j]? = some o → ops[i + j]? = some o) → Fr ops val0 a0 (fun j => decide (j < i)) a → SeqL P ops S R l a →
  ∃ val : Nat → Value, (∀ j, j < i → val j = val0 j) ∧ (∀ k o, i ≤ k → k < i + l.length → ops[k]? = some o → ∃ x, Fr ops val a0 (fun j => decide (j < k)) x ∧ StepV P ops S x o (val k)) ∧
   ∃ x, Fr ops val a0 (fun j => decide (j < i + l.length)) x ∧ R x
 | [], i, val0, a, hl, hf, h => ⟨val0, fun _ _ => rfl, fun k o hk ho => absurd ho (by simp; omega), a, hf, h⟩
 | o :: rest, i, val0, a, hl, hf, h => by
  obtain ⟨v, hs, hrest⟩ := h
  have hi : ops[i]? = some o := hl 0 o (by simp)
  let val1 : Nat → Value := fun j => if j = i then v else val0 j
  have hf1 : Fr ops val1 a0 (fun j => decide (j < i)) a := fr_congr hf (fun _ _ => rfl) (fun j hj => by
   have : j < i := by simpa using hj
   show (if j = i then v else val0 j) = _
   rw [if_neg (by omega)])
  have hv1 : val1 i = v := if_pos rfl
  have hf2 : Fr ops val1 a0 (fun j => decide (j < i + 1)) (a.put o.dst v) := by
   rw [← hv1]
   exact fr_put ok hi hf1 fun j _ => by
    rw [Bool.eq_iff_iff]; simp; omega
  obtain ⟨val, hv, hsteps, hend⟩ := seq_split ok rest (i + 1) val1 (a.put o.dst v) (fun j o' hj => by
   have := hl (j + 1) o' (by simpa using hj)
   rw [show i + 1 + j = i + (j + 1) by omega]; exact this) hf2 hrest
  refine ⟨val, fun j hj => ?_, fun k ok' hk hkl hko => ?_, ?_⟩
  ·rw [hv j (by omega)]
   show (if j = i then v else val0 j) = _
   rw [if_neg (by omega)]
  ·by_cases hki : k = i
   ·subst hki
    rw [hi] at hko
    cases hko
    refine ⟨a, fr_congr hf1 (fun _ _ => rfl) (fun j hj => hv j (Nat.lt_succ_of_lt (by simpa using hj))), ?_⟩
    rw [hv k (by omega), hv1]
    exact hs
   ·exact hsteps k ok' (by omega) (by simp only [List.length_cons] at hkl; omega) hko
  ·rw [show i + (o :: rest).length = i + 1 + rest.length by simp only [List.length_cons]; omega]
   exact hend
theorem rep_false (n i : Nat) : (Array.replicate n false).getD i false = false := by
 rw [Array.getD_eq_getD_getElem?, Array.getElem?_replicate]
 split <;> rfl
theorem region_det {id : Nat} {l : List Oper} {t : Array Value} {d : List Deferred} {w : World} (S : World → Prop) (k : Nat) (hm : P.follows .mixedOrders = true) (hok : okOps l.toArray = true) (ht : tailOk l.toArray k = true) (hk : k ≤ l.length) (hS : S w.drew)
  (h : SeqW P l.toArray S d (fun t' => ∀ w', S w' → wpList P l.toArray Q (l.drop k) { tmps := t', defers := d } w') (l.take k) t) : (Code.region id l.toArray true).wp P Q { tmps := t, defers := d } w := by
 have ok := okOps_spec hok
 have hlen : l.toArray.size = l.length := by simp
 refine wp_region_any hm ?_
 obtain ⟨val, _, hsteps, x, hfx, t', rfl, hR⟩ := seq_split ok (l.take k) 0 (fun _ => undef) { tmps := t, defers := d } (fun j o hj => by
  rw [List.getElem?_take] at hj
  split at hj
  ·simpa using hj
  ·cases hj) (fr_start _ _ _ fun i _ => by simp) (seqL_of_W hS _ _ h)
 have hlk : 0 + (l.take k).length = k := by rw [List.length_take]; omega
 rw [hlk] at hsteps hfx
 refine any_det ok (k := k) (by omega) ht (val := val) (fun i o hi ho => hsteps i o (Nat.zero_le _) hi ho) (fun y hy w' hS' => ?_) _ _ _ _ (by simp) ?_ ?_ ?_ ?_ hS
 ·rw [fr_eq hy hfx fun _ _ => rfl]
  exact hR w' hS'
 ·have : ∀ (L : Nat → Bool) n, cnt L n ≤ n := fun L n => by
   induction n with
   | zero => exact Nat.le_refl _
   | succ n ih => simp only [cnt]; split <;> omega
  exact this _ _
 ·intro i o hi hl
  rw [rep_false] at hl
  cases hl
 ·intro i hi hl
  rw [rep_false] at hl
  cases hl
 ·exact fr_start _ _ _ fun i hi => rep_false _ i
def AtEnd (S : World → Prop) (d : List Deferred) (t' : Array Value) : Exit → Act → World → Prop := fun e a' w' => e = .normal ∧ a' = { tmps := t', defers := d } ∧ S w'
theorem AtEnd.mk {d : List Deferred} {t' : Array Value} {w : World} (h : S w) : AtEnd S d t' .normal { tmps := t', defers := d } w := ⟨rfl, rfl, h⟩
theorem seqW_cons {d : List Deferred} {R : Array Value → Prop} {o : Oper} {rest : List Oper} {t t' : Array Value} (h : ∀ w, S w → wpList P ops (AtEnd S d t') [o] { tmps := t, defers := d } w)
  (hr : SeqW P ops S d R rest t') : SeqW P ops S d R (o :: rest) t := ⟨t', h, hr⟩
theorem seqW_nil {d : List Deferred} {R : Array Value → Prop} {t : Array Value} (h : R t) : SeqW P ops S d R [] t := h
theorem region_all {id : Nat} {l : List Oper} {t : Array Value} {d : List Deferred} {w : World} (S : World → Prop) (hm : P.follows .mixedOrders = true) (hok : okOps l.toArray = true) (hS : S w.drew)
  (h : SeqW P l.toArray S d (fun t' => ∀ w', S w' → Q .normal { tmps := t', defers := d } w') l t) : (Code.region id l.toArray true).wp P Q { tmps := t, defers := d } w := by
 have ht : tailOk l.toArray l.length = true := by
  unfold tailOk
  rw [List.all_eq_true]
  intro j hj
  have : j < l.length := by simpa using hj
  simp [this]
 refine region_det S l.length hm hok ht (Nat.le_refl _) hS ?_
 rw [List.take_of_length_le (Nat.le_refl _), List.drop_of_length_le (Nat.le_refl _)]
 exact h
end Go.Det
