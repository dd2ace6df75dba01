/- Texts of this seat, one behind the other. -/
import Derived.Orders
import Derived.Deep.RegionHeld
import Derived.WalkKit
import Derived.Lib.Hide
import Derived.RangeFuncBox
import Derived.Maps.AppendAt
import Derived.RangeFuncNested
import Derived.RangeFuncBound
import Derived.RangeFuncCalls
import Derived.RangeFuncLeaves
import Derived.Shelf.Abstract
import Derived.Shelf.RegionOpen
import Derived.OwnWalkIn
import Derived.TacticsInMore
import Derived.LoopNIn
import Derived.LoopIn
import Derived.OrdersIn
import Derived.TacticsIn
import Derived.Test.YtbddfnmhhmkfkaaXBestOf1
namespace Go.Det
open Go
set_option linter.unusedVariables false
variable {P : Program} {ops : Array Oper} {Q : Exit → Act → World → Prop} {S : World → Prop}
def NoOut : Exit → Act → World → Prop := fun _ _ _ => False
theorem noOut_lets : ¬ LetsOut NoOut := fun ⟨_, _, h⟩ => h
theorem upon_imp {o : Oper} {a : Act} {K K' : Act → World → Prop} {r : Result Next} (h : ∀ a w, K a w → K' a w) (hh : o.upon P a K NoOut r) : o.upon P a K' Q r := by
 cases r with
 | ok n w' =>
  cases n <;> simp only [Oper.upon] at hh ⊢ <;>
   first
    | exact h _ _ hh
    | exact Calls.mono hh (fun e w'' he => by cases e <;> first | exact h _ _ he | exact he.elim | exact (noOut_lets he).elim)
    | exact Rows.mono hh (fun _ _ he => h _ _ he)
 | halt x w' => cases x <;> simp only [Oper.upon] at hh ⊢ <;> exact hh.elim
theorem put_inj {a b : Act} {dst : Option Tmp} {u v : Value} (hs : b.tmps.size = a.tmps.size) (h : a.put dst u = a.put dst v) : b.put dst u = b.put dst v := by
 cases dst with
 | none => rfl
 | some d =>
  by_cases hd : d < a.tmps.size
  ·have h1 : (a.put (some d) u).tmps[d]? = (a.put (some d) v).tmps[d]? := by rw [h]
   simp only [Act.put, Array.getElem?_setIfInBounds, if_pos hd, if_true, Option.some.injEq] at h1
   rw [h1]
  ·simp only [Act.put]
   rw [Array.setIfInBounds_eq_of_size_le (by rw [hs]; exact Nat.le_of_not_lt hd), Array.setIfInBounds_eq_of_size_le (by rw [hs]; exact Nat.le_of_not_lt hd)]
theorem upon_same {o : Oper} {x y : Act} {v : Value} {r : Result Next} (hs : y.tmps.size = x.tmps.size) (hh : o.upon P x (fun a' w' => a' = x.put o.dst v ∧ S w') NoOut r) :
  o.upon P y (fun a' w' => a' = y.put o.dst v ∧ S w') NoOut r := by
 cases r with
 | ok n w' =>
  cases n <;> simp only [Oper.upon] at hh ⊢ <;>
   first
    | exact ⟨put_inj hs hh.1, hh.2⟩
    | exact Calls.mono hh (fun e w'' he => by cases e <;> first | exact ⟨put_inj hs he.1, he.2⟩ | exact he.elim | exact (noOut_lets he).elim)
    | exact Rows.mono hh (fun _ _ he => ⟨put_inj hs he.1, he.2⟩)
    | skip
  rename_i d
  exfalso
  have := congrArg (fun a : Act => a.defers.length) hh.1
  cases hd : o.dst <;> simp [hd, Act.put] at this
 | halt x w' => cases x <;> simp only [Oper.upon] at hh ⊢ <;> exact hh.elim
def StepV (P : Program) (ops : Array Oper) (S : World → Prop) (a : Act) (o : Oper) (v : Value) : Prop :=
 (Region.wanted o (yielded ops a.tmps) = true ∧ ∀ w, S w → o.wp P a w (fun a' w' => a' = a.put o.dst v ∧ S w') NoOut) ∨
 (Region.wanted o (yielded ops a.tmps) = false ∧ v = undef)
def SeqL (P : Program) (ops : Array Oper) (S : World → Prop) (R : Act → Prop) : List Oper → Act → Prop
 | [], a => R a
 | o :: rest, a => ∃ v, StepV P ops S a o v ∧ SeqL P ops S R rest (a.put o.dst v)
def okAt (ops : Array Oper) (i : Nat) (o : Oper) : Bool :=
 (o.after.all fun e => decide (e.on < i)) &&
 ((List.range ops.size).all fun j => match ops[j]? with
  | none => true
  | some oj =>
   (match oj.dst with
    | none => true
    | some t => (j == i || o.dst != some t) &&
     (!(o.looksAt ops).contains t || (o.after.any fun e => Region.binds .any e && e.on == j) || (j != i && oj.after.any fun e => Region.binds .any e && e.on == i)))) &&
 (match o.op with | .select _ _ => false | _ => true)
def okOps (ops : Array Oper) : Bool := (List.range ops.size).all fun i => match ops[i]? with | none => true | some o => okAt ops i o
structure Ok (ops : Array Oper) : Prop where
 back : ∀ (i : Nat) (o : Oper), ops[i]? = some o → ∀ e ∈ o.after, e.on < i
 apart : ∀ (i : Nat) (o : Oper) (j : Nat) (oj : Oper) (t : Tmp), ops[i]? = some o → ops[j]? = some oj → oj.dst = some t → j ≠ i → o.dst ≠ some t
 reads : ∀ (i : Nat) (o : Oper) (j : Nat) (oj : Oper) (t : Tmp), ops[i]? = some o → ops[j]? = some oj → oj.dst = some t → t ∈ o.looksAt ops →
  (∃ e ∈ o.after, Region.binds .any e = true ∧ e.on = j) ∨ (j ≠ i ∧ ∃ e ∈ oj.after, Region.binds .any e = true ∧ e.on = i)
 plain : ∀ (i : Nat) (o : Oper), ops[i]? = some o → ∀ cs b, o.op ≠ .select cs b
theorem lt_of_some {i : Nat} {o : Oper} (h : ops[i]? = some o) : i < ops.size := (Array.getElem?_eq_some_iff.1 h).1
theorem okOps_spec (h : okOps ops = true) : Ok ops := by
 have hat : ∀ (i : Nat) (o : Oper), ops[i]? = some o → okAt ops i o = true := fun i o hi => by
  have := List.all_eq_true.1 h i (List.mem_range.2 (lt_of_some hi))
  simpa [hi] using this
 have pair : ∀ (i : Nat) (o : Oper) (j : Nat) (oj : Oper) (t : Tmp), ops[i]? = some o → ops[j]? = some oj → oj.dst = some t → ((j == i || o.dst != some t) &&
     (!(o.looksAt ops).contains t || (o.after.any fun e => Region.binds .any e && e.on == j) || (j != i && oj.after.any fun e => Region.binds .any e && e.on == i))) = true := fun i o j oj t hi hj hd => by
  have := hat i o hi
  simp only [okAt, Bool.and_eq_true] at this
  have h2 := List.all_eq_true.1 this.1.2 j (List.mem_range.2 (lt_of_some hj))
  simp only [hj, hd] at h2
  exact h2
 refine ⟨fun i o hi e he => ?_, fun i o j oj t hi hj hd hne => ?_, fun i o j oj t hi hj hd ht => ?_, fun i o hi cs b hs => ?_⟩
 ·have := hat i o hi
  simp only [okAt, Bool.and_eq_true] at this
  have := (Array.all_eq_true_iff_forall_mem.1 this.1.1) e he
  simpa using this
 ·have := pair i o j oj t hi hj hd
  simp only [Bool.and_eq_true, Bool.or_eq_true, beq_iff_eq, bne_iff_ne] at this
  rcases this.1 with h1 | h1
  ·exact absurd h1 hne
  ·exact h1
 ·have := pair i o j oj t hi hj hd
  simp only [Bool.and_eq_true, Bool.or_eq_true, beq_iff_eq, bne_iff_ne, Bool.not_eq_true', Array.any_eq_true'] at this
  rcases this.2 with (h1 | h1) | ⟨h0, h1⟩
  ·rw [List.contains_eq_mem] at h1
   simp [ht] at h1
  ·obtain ⟨e, he, h2⟩ := h1
   exact .inl ⟨e, he, by simpa using h2⟩
  ·obtain ⟨e, he, h2⟩ := h1
   exact .inr ⟨h0, e, he, by simpa using h2⟩
 ·have := hat i o hi
  simp only [okAt, Bool.and_eq_true, hs] at this
  exact absurd this.2 (by simp)
def Fr (ops : Array Oper) (val : Nat → Value) (a : Act) (L : Nat → Bool) (x : Act) : Prop :=
 x.defers = a.defers ∧ x.tmps.size = a.tmps.size ∧ ∀ t, t < a.tmps.size →
  (∀ i o, ops[i]? = some o → L i = true → o.dst = some t → x.tmps[t]? = some (val i)) ∧
  ((∀ i o, ops[i]? = some o → L i = true → o.dst ≠ some t) → x.tmps[t]? = a.tmps[t]?)
theorem fr_start (val : Nat → Value) (a : Act) (L : Nat → Bool) (h : ∀ i, i < ops.size → L i = false) : Fr ops val a L a :=
 ⟨rfl, rfl, fun t ht => ⟨fun i o hi hl => (by rw [h i (lt_of_some hi)] at hl; exact absurd hl (by simp)), fun _ => rfl⟩⟩
theorem fr_congr {val val' : Nat → Value} {a x : Act} {L L' : Nat → Bool} (h : Fr ops val a L x) (hL : ∀ i, i < ops.size → L' i = L i) (hv : ∀ i, L i = true → val' i = val i) : Fr ops val' a L' x :=
 ⟨h.1, h.2.1, fun t ht => ⟨fun i o hi hl hd => by
   have hl' : L i = true := by rw [← hL i (lt_of_some hi)]; exact hl
   rw [hv i hl']; exact (h.2.2 t ht).1 i o hi hl' hd,
  fun hn => (h.2.2 t ht).2 fun i o hi hl => hn i o hi (by rw [hL i (lt_of_some hi)]; exact hl)⟩⟩
theorem fr_put (ok : Ok ops) {val : Nat → Value} {a x : Act} {L L' : Nat → Bool} {i : Nat} {o : Oper} (hi : ops[i]? = some o) (h : Fr ops val a L x)
  (hL : ∀ j, j < ops.size → L' j = (L j || j == i)) : Fr ops val a L' (x.put o.dst (val i)) := by
 obtain ⟨h1, h2, h3⟩ := h
 cases hd : o.dst with
 | none =>
  refine ⟨h1, h2, fun t ht => ⟨fun j oj hj hl hdj => ?_, fun hn => ?_⟩⟩
  ·rw [hL j (lt_of_some hj)] at hl
   rcases Bool.or_eq_true .. ▸ hl with hl | hl
   ·exact (h3 t ht).1 j oj hj hl hdj
   ·have : j = i := by simpa using hl
    subst this
    rw [hi] at hj
    cases hj
    rw [hd] at hdj
    cases hdj
  ·exact (h3 t ht).2 fun j oj hj hl => hn j oj hj (by rw [hL j (lt_of_some hj), hl]; rfl)
 | some d =>
  refine ⟨h1, by simp [Act.put, h2], fun t ht => ?_⟩
  by_cases htd : d = t
  ·subst htd
   have hv : (x.put (some d) (val i)).tmps[d]? = some (val i) := by simp [Act.put, h2, ht]
   refine ⟨fun j oj hj hl hdj => ?_, fun hn => absurd hd (hn i o hi (by rw [hL i (lt_of_some hi)]; simp))⟩
   by_cases hji : j = i
   ·subst hji; exact hv
   ·exact absurd hd (ok.apart i o j oj d hi hj hdj hji)
  ·have hv : (x.put (some d) (val i)).tmps[t]? = x.tmps[t]? := by simp [Act.put, Array.getElem?_setIfInBounds_ne htd]
   rw [hv]
   refine ⟨fun j oj hj hl hdj => ?_, fun hn => (h3 t ht).2 fun j oj hj hl => hn j oj hj (by rw [hL j (lt_of_some hj), hl]; rfl)⟩
   rw [hL j (lt_of_some hj)] at hl
   rcases Bool.or_eq_true .. ▸ hl with hl | hl
   ·exact (h3 t ht).1 j oj hj hl hdj
   ·have : j = i := by simpa using hl
    subst this
    rw [hi] at hj
    cases hj
    rw [hd] at hdj
    cases hdj
    exact absurd rfl htd
theorem fr_same {val : Nat → Value} {a x y : Act} {L L' : Nat → Bool} (hx : Fr ops val a L x) (hy : Fr ops val a L' y) (t : Tmp)
  (h : ∀ j oj, ops[j]? = some oj → oj.dst = some t → L j = L' j) : x.tmps[t]? = y.tmps[t]? := by
 by_cases ht : t < a.tmps.size
 ·by_cases hex : ∃ j oj, ops[j]? = some oj ∧ L j = true ∧ oj.dst = some t
  ·obtain ⟨j, oj, hj, hl, hd⟩ := hex
   rw [(hx.2.2 t ht).1 j oj hj hl hd, (hy.2.2 t ht).1 j oj hj (by rw [← h j oj hj hd]; exact hl) hd]
  ·have hn : ∀ j oj, ops[j]? = some oj → L j = true → oj.dst ≠ some t := fun j oj hj hl hd => hex ⟨j, oj, hj, hl, hd⟩
   rw [(hx.2.2 t ht).2 hn, (hy.2.2 t ht).2 fun j oj hj hl hd => hn j oj hj (by rw [h j oj hj hd]; exact hl) hd]
 ·rw [Array.getElem?_eq_none (by rw [hx.2.1]; exact Nat.le_of_not_lt ht), Array.getElem?_eq_none (by rw [hy.2.1]; exact Nat.le_of_not_lt ht)]
theorem fr_eq {val : Nat → Value} {a x y : Act} {L L' : Nat → Bool} (hx : Fr ops val a L x) (hy : Fr ops val a L' y) (h : ∀ j, j < ops.size → L j = L' j) : x = y := by
 have h1 : x.tmps = y.tmps := Array.ext_getElem? fun t => fr_same hx hy t fun j oj hj _ => h j (lt_of_some hj)
 have h2 : x.defers = y.defers := hx.1.trans hy.1.symm
 cases x; cases y; simp_all
theorem step_same (ok : Ok ops) {val : Nat → Value} {a x y : Act} {L L' : Nat → Bool} {i : Nat} {o : Oper} {v : Value} (hi : ops[i]? = some o) (hx : Fr ops val a L x) (hy : Fr ops val a L' y)
  (h : ∀ j oj t, ops[j]? = some oj → oj.dst = some t → t ∈ o.looksAt ops → L j = L' j) (hs : StepV P ops S x o v) : StepV P ops S y o v := by
 have hev : execOp y.eval o = execOp x.eval o := execOp_congr o (ok.plain i o hi) fun z hz => by
  cases z with
  | tmp t =>
   have := fr_same hx hy t fun j oj hj hd => h j oj t hj hd (List.mem_append_left _ (List.mem_filterMap.2 ⟨.tmp t, by simpa using hz, rfl⟩))
   simp [Act.eval, Array.getD_eq_getD_getElem?, this]
  | _ => rfl
 have hw : Region.wanted o (yielded ops y.tmps) = Region.wanted o (yielded ops x.tmps) := by
  unfold Region.wanted
  cases hg : o.guard with
  | none => rfl
  | some gw =>
   obtain ⟨g, want⟩ := gw
   have : yielded ops y.tmps g = yielded ops x.tmps g := by
    unfold yielded
    cases ht : (ops[g]?).bind (·.dst) with
    | none => rfl
    | some t =>
     have := fr_same hx hy t fun j oj hj hd => h j oj t hj hd (by simp [Oper.looksAt, hg, ht])
     simp [this]
   simp only [this]
 have hsz : y.tmps.size = x.tmps.size := by rw [hx.2.1, hy.2.1]
 rcases hs with ⟨h1, h2⟩ | h1
 ·refine .inl ⟨by rw [hw]; exact h1, fun w hS => ?_⟩
  have := h2 w hS
  unfold Oper.wp at this ⊢
  rw [hev]
  exact upon_same hsz this
 ·exact .inr (by rw [hw]; exact h1)
def cnt (L : Nat → Bool) : Nat → Nat
 | 0 => 0
 | k + 1 => cnt L k + (if L k = true then 0 else 1)
theorem cnt_zero (L : Nat → Bool) : ∀ n, cnt L n = 0 → ∀ i, i < n → L i = true
 | 0, _, i, hi => absurd hi (by omega)
 | n + 1, h, i, hi => by
  simp only [cnt] at h
  by_cases hin : i = n
  ·subst hin
   by_cases hl : L i = true
   ·exact hl
   ·rw [if_neg hl] at h; omega
  ·exact cnt_zero L n (by omega) i (by omega)
theorem cnt_set (L L' : Nat → Bool) (i : Nat) (hi : L i = false) (hL : ∀ j, L' j = (L j || j == i)) : ∀ n, (i < n → cnt L' n + 1 = cnt L n) ∧ (n ≤ i → cnt L' n = cnt L n)
 | 0 => ⟨fun h => absurd h (by omega), fun _ => rfl⟩
 | n + 1 => by
  obtain ⟨h1, h2⟩ := cnt_set L L' i hi hL n
  simp only [cnt, hL n]
  refine ⟨fun h => ?_, fun h => ?_⟩
  ·by_cases hin : i = n
   ·subst hin
    rw [h2 (by omega), hi]
    simp
   ·have := h1 (by omega)
    simp only [show (n == i) = false by simpa using Ne.symm hin, Bool.or_false]
    omega
  ·rw [h2 (by omega)]
   simp only [show (n == i) = false by simp; omega, Bool.or_false]
def waits (ops : Array Oper) : Nat → Nat → Nat → Bool
 | 0, _, _ => false
 | n + 1, j, i => match ops[j]? with
  | none => false
  | some o => o.after.any fun e => Region.binds .any e && (e.on == i || waits ops n e.on i)
def tailOk (ops : Array Oper) (k : Nat) : Bool := (List.range ops.size).all fun j => decide (j < k) || (List.range j).all fun i => waits ops ops.size j i
theorem waits_listed {listed : Array Bool} (hcl : ∀ (i : Nat) (o : Oper), ops[i]? = some o → listed.getD i false = true → ∀ e ∈ o.after, Region.binds .any e = true → listed.getD e.on false = true) :
  ∀ (n j i : Nat), (∀ (o : Oper), ops[j]? = some o → ∀ e ∈ o.after, Region.binds .any e = true → listed.getD e.on false = true) → waits ops n j i = true → listed.getD i false = true
 | 0, j, i, _, h => by simp [waits] at h
 | n + 1, j, i, hj, h => by
  simp only [waits] at h
  split at h
  ·cases h
  ·rename_i o ho
   obtain ⟨e, he, h2⟩ := Array.any_eq_true'.1 h
   simp only [Bool.and_eq_true, Bool.or_eq_true, beq_iff_eq] at h2
   have hl := hj o ho e he h2.1
   rcases h2.2 with h3 | h3
   ·rw [← h3]; exact hl
   ·exact waits_listed hcl n e.on i (fun o' ho' => hcl e.on o' ho' hl) h3
theorem tail_waits {k : Nat} (ht : tailOk ops k = true) {j i : Nat} (hj : j < ops.size) (hk : k ≤ j) (hi : i < j) : waits ops ops.size j i = true := by
 have := List.all_eq_true.1 ht j (List.mem_range.2 hj)
 simp only [Bool.or_eq_true, decide_eq_true_eq] at this
 rcases this with h | h
 ·omega
 ·exact List.all_eq_true.1 h i (List.mem_range.2 hi)
theorem getD_lt {listed : Array Bool} {i : Nat} (h : i < listed.size) (d : Bool) : listed.getD i d = listed.getD i false := by
 simp [Array.getD_eq_getD_getElem?, Array.getElem?_eq_getElem h]
theorem ready_iff {listed : Array Bool} (hsz : listed.size = ops.size) {i : Nat} {o : Oper} (ho : ops[i]? = some o) :
  i ∈ Region.ready .any ops listed ↔ listed.getD i false = false ∧ ∀ e ∈ o.after, Region.binds .any e = true → listed.getD e.on false = true := by
 have hi : i < ops.size := lt_of_some ho
 unfold Region.ready
 rw [List.mem_filter, ho, getD_lt (by omega)]
 simp only [List.mem_range, hi, true_and, Bool.and_eq_true, Bool.not_eq_true', Option.map_some, Option.getD_some]
 rw [Array.all_eq_true_iff_forall_mem]
 refine and_congr Iff.rfl (forall_congr' fun e => forall_congr' fun he => ?_)
 cases Region.binds .any e <;> simp
theorem ready_lt {listed : Array Bool} {i : Nat} (h : i ∈ Region.ready .any ops listed) : i < ops.size := by
 unfold Region.ready at h
 rw [List.mem_filter] at h
 exact List.mem_range.1 h.1
theorem least_ready (ok : Ok ops) {listed : Array Bool} (hsz : listed.size = ops.size) (hr : Region.ready .any ops listed = []) (i : Nat) (hi : i < ops.size) : listed.getD i false = true := by
 induction i using Nat.strongRecOn with
 | ind i ih =>
  cases hl : listed.getD i false with
  | true => rfl
  | false =>
   exfalso
   have ho : ops[i]? = some ops[i] := Array.getElem?_eq_getElem hi
   have hmem := (ready_iff hsz ho).2 ⟨hl, fun e he _ => by
    have hb := ok.back i _ ho e he
    exact ih e.on hb (by omega)⟩
   rw [hr] at hmem
   cases hmem
theorem set_getD {listed : Array Bool} {i : Nat} (hil : i < listed.size) (j : Nat) : (listed.setIfInBounds i true).getD j false = (listed.getD j false || j == i) := by
 simp only [Array.getD_eq_getD_getElem?, Array.getElem?_setIfInBounds]
 by_cases hij : i = j
 ·subst hij; simp [hil]
 ·simp [hij, Ne.symm hij]
theorem drop_cons {m : Nat} {o : Oper} (ho : ops[m]? = some o) : ops.toList.drop m = o :: ops.toList.drop (m + 1) := by
 have hm : m < ops.toList.length := by simpa using lt_of_some ho
 rw [List.drop_eq_getElem_cons hm]
 congr 1
 have h1 : ops.toList[m]? = some o := by simpa using ho
 rw [List.getElem?_eq_getElem hm] at h1
 exact Option.some.inj h1
theorem any_tail (ok : Ok ops) {k : Nat} (ht : tailOk ops k = true) : ∀ (fuel m : Nat) (listed : Array Bool) (a : Act) (w : World), listed.size = ops.size → (∀ i, i < ops.size → listed.getD i false = decide (i < m)) →
  k ≤ m → m ≤ ops.size → ops.size ≤ fuel + m → wpList P ops Q (ops.toList.drop m) a w → wpAny P .any ops Q fuel listed a w := by
 intro fuel
 induction fuel with
 | zero =>
  intro m listed a w hsz hL hk hm hf h
  obtain rfl : m = ops.size := by omega
  rw [List.drop_eq_nil_of_le (by simp)] at h
  refine ⟨?_, h⟩
  rw [List.eq_nil_iff_forall_not_mem]
  intro i hi
  have hi' := ready_lt hi
  have := ((ready_iff hsz (Array.getElem?_eq_getElem hi')).1 hi).1
  rw [hL i hi'] at this
  simp at this
  omega
 | succ fuel ih =>
  intro m listed a w hsz hL hk hm hf h
  refine ⟨fun hr => ?_, fun i hi => ?_⟩
  ·have hms : m = ops.size := by
    rcases Nat.lt_or_ge m ops.size with h1 | h1
    ·have := least_ready ok hsz hr m h1
     rw [hL m h1] at this
     simp at this
    ·omega
   subst hms
   rw [List.drop_eq_nil_of_le (by simp)] at h
   exact h
  ·have hi' := ready_lt hi
   obtain ⟨h1, h2⟩ := (ready_iff hsz (Array.getElem?_eq_getElem hi')).1 hi
   rw [hL i hi'] at h1
   have hmi : m ≤ i := by simpa using h1
   have him : i = m := by
    rcases Nat.lt_or_ge m i with h3 | h3
    ·exfalso
     have hw := tail_waits ht hi' (by omega) h3
     have hcl : ∀ (j : Nat) (o : Oper), ops[j]? = some o → listed.getD j false = true → ∀ e ∈ o.after, Region.binds .any e = true → listed.getD e.on false = true := fun j o hj hl e he _ => by
      have hb := ok.back j o hj e he
      have hj' := lt_of_some hj
      rw [hL j hj'] at hl
      rw [hL e.on (by omega)]
      simp at hl ⊢
      omega
     have := waits_listed hcl ops.size i m (fun o ho e he hb => by
      rw [Array.getElem?_eq_getElem hi'] at ho
      cases ho
      exact h2 e he hb) hw
     rw [hL m (by omega)] at this
     simp at this
    ·omega
   subst him
   have ho : ops[i]? = some ops[i] := Array.getElem?_eq_getElem hi'
   rw [drop_cons ho] at h
   have hnext : ∀ a w, wpList P ops Q (ops.toList.drop (i + 1)) a w → wpAny P .any ops Q fuel (listed.setIfInBounds i true) a w := fun a w h' =>
    ih (i + 1) _ a w (by simpa using hsz) (fun j hj => by
     rw [set_getD (by omega), hL j hj, Bool.eq_iff_iff]; simp; omega) (by omega) (by omega) (by omega) h'
   unfold wpOp
   rw [ho]
   simp only
   unfold wpList at h
   split
   ·rename_i hw
    rw [if_pos hw] at h
    exact h.imp (Oper.wp_mono hnext) id
   ·rename_i hw
    rw [if_neg hw] at h
    exact hnext _ _ h
theorem any_det (ok : Ok ops) {k : Nat} (hkn : k ≤ ops.size) (ht : tailOk ops k = true) {val : Nat → Value} {a0 : Act} (hsteps : ∀ i o, i < k → ops[i]? = some o → ∃ x, Fr ops val a0 (fun j => decide (j < i)) x ∧ StepV P ops S x o (val i))
  (hend : ∀ x, Fr ops val a0 (fun j => decide (j < k)) x → ∀ w, S w → wpList P ops Q (ops.toList.drop k) x w) : ∀ (fuel : Nat) (listed : Array Bool) (a : Act) (w : World), listed.size = ops.size →
  cnt (fun i => listed.getD i false) ops.size ≤ fuel → (∀ i o, ops[i]? = some o → listed.getD i false = true → ∀ e ∈ o.after, Region.binds .any e = true → listed.getD e.on false = true) →
  (∀ i, i < ops.size → listed.getD i false = true → i < k) →
  Fr ops val a0 (fun i => listed.getD i false) a → S w → wpAny P .any ops Q fuel listed a w := by
 intro fuel
 induction fuel with
 | zero =>
  intro listed a w hsz hc hcl hlk hf hS
  have hall := cnt_zero _ _ (Nat.le_zero.1 hc)
  have hks : k = ops.size := by
   rcases Nat.lt_or_ge k ops.size with h | h
   ·have := hlk k h (hall k h); omega
   ·omega
  refine any_tail ok ht 0 k listed a w hsz (fun i hi => by rw [hall i hi]; simp; omega) (Nat.le_refl _) hkn (by omega) (hend a (fr_congr hf (fun j hj => ?_) (fun _ _ => rfl)) w hS)
  rw [hall j hj]; simp; omega
 | succ fuel ih =>
  intro listed a w hsz hc hcl hlk hf hS
  by_cases hdone : ∀ i, i < k → listed.getD i false = true
  ·have hL : ∀ i, i < ops.size → listed.getD i false = decide (i < k) := fun i hi => by
    by_cases hik : i < k
    ·rw [hdone i hik]; simp [hik]
    ·have : listed.getD i false ≠ true := fun h => hik (hlk i hi h)
     simp only [Bool.not_eq_true] at this
     rw [this]; simp [hik]
   have hcnt : ops.size ≤ cnt (fun i => listed.getD i false) ops.size + k := by
    have : ∀ n, n ≤ ops.size → n ≤ cnt (fun i => listed.getD i false) n + k := fun n => by
     induction n with
     | zero => intro _; omega
     | succ n ihn =>
      intro hn
      simp only [cnt]
      have := ihn (by omega)
      have hLn := hL n (by omega)
      by_cases hnk : n < k
      ·split <;> omega
      ·rw [if_neg (by rw [hLn]; simp [hnk])]
       omega
    exact this _ (Nat.le_refl _)
   exact any_tail ok ht (fuel + 1) k listed a w hsz hL (Nat.le_refl _) hkn (by omega) (hend a (fr_congr hf (fun j hj => (hL j hj).symm) (fun _ _ => rfl)) w hS)
  refine ⟨fun hr => absurd (fun i hi => least_ready ok hsz hr i (by omega)) hdone, fun i hi => ?_⟩
  have hin : i < ops.size := ready_lt hi
  have hil : i < listed.size := by omega
  obtain ⟨o, ho⟩ : ∃ o, ops[i]? = some o := ⟨_, Array.getElem?_eq_getElem hin⟩
  obtain ⟨hlf, hdeps⟩ := (ready_iff hsz ho).1 hi
  have hik : i < k := by
   rcases Nat.lt_or_ge i k with h | h
   ·exact h
   ·exfalso
    refine hdone fun j hj => ?_
    have hw := tail_waits ht hin h (show j < i by omega)
    exact waits_listed hcl ops.size i j (fun o' ho' e he hb => by
     rw [ho] at ho'
     cases ho'
     exact hdeps e he hb) hw
  have hset : ∀ j, (listed.setIfInBounds i true).getD j false = (listed.getD j false || j == i) := fun j => set_getD hil j
  obtain ⟨x, hfx, hsx⟩ := hsteps i o hik ho
  have hst : StepV P ops S a o (val i) := step_same ok ho hfx hf (fun j oj t hj hd ht => by
   rcases ok.reads i o j oj t ho hj hd ht with ⟨e, he, hb, rfl⟩ | ⟨hne, e, he, hb, hei⟩
   ·rw [hdeps e he hb]
    simpa using ok.back i o ho e he
   ·have hlt : i < j := hei ▸ ok.back j oj hj e he
    have : listed.getD j false = false := by
     cases hlj : listed.getD j false with
     | false => rfl
     | true =>
      have := hcl j oj hj hlj e he hb
      rw [hei, hlf] at this
      cases this
    rw [this]
    simp; omega) hsx
  have hnext : ∀ w', S w' → wpAny P .any ops Q fuel (listed.setIfInBounds i true) (a.put o.dst (val i)) w' := fun w' hS' => by
   refine ih _ _ _ (by simpa using hsz) ?_ ?_ ?_ ?_ hS'
   ·have := (cnt_set (fun j => listed.getD j false) (fun j => (listed.setIfInBounds i true).getD j false) i hlf hset ops.size).1 hin
    omega
   ·intro j oj hj hlj e he hb
    rw [hset] at hlj ⊢
    rcases Bool.or_eq_true .. ▸ hlj with h | h
    ·rw [hcl j oj hj h e he hb]; rfl
    ·have : j = i := by simpa using h
     subst this
     rw [ho] at hj
     cases hj
     rw [hdeps e he hb]; rfl
   ·intro j hj hlj
    rw [hset] at hlj
    rcases Bool.or_eq_true .. ▸ hlj with h | h
    ·exact hlk j hj h
    ·have : j = i := by simpa using h
     omega
   ·exact fr_put ok ho hf fun j _ => hset j
  unfold wpOp
  rw [ho]
  simp only
  rcases hst with ⟨hw, hrun⟩ | ⟨hw, hv⟩
  ·rw [if_pos hw]
   refine .inl ?_
   have := hrun w hS
   unfold Oper.wp at this ⊢
   exact upon_imp (fun a' w' ⟨ha', hS'⟩ => ha' ▸ hnext w' hS') this
  ·rw [if_neg (by rw [hw]; simp)]
   rw [← hv]
   exact hnext w hS
def SeqW (P : Program) (ops : Array Oper) (S : World → Prop) (d : List Deferred) (R : Array Value → Prop) : List Oper → Array Value → Prop
 | [], t => R t
 | o :: rest, t => ∃ t' : Array Value, (∀ w, S w → wpList P ops (fun e a' w' => e = .normal ∧ a' = { tmps := t', defers := d } ∧ S w') [o] { tmps := t, defers := d } w) ∧ SeqW P ops S d R rest t'
def putVal (dst : Option Tmp) (t : Array Value) : Value := match dst with | none => undef | some d => t.getD d undef
theorem put_putVal {t F : Array Value} {d : List Deferred} {dst : Option Tmp} {u : Value} (h : ({ tmps := t, defers := d } : Act).put dst u = { tmps := F, defers := d }) :
  ({ tmps := F, defers := d } : Act) = ({ tmps := t, defers := d } : Act).put dst (putVal dst F) := by
 cases dst with
 | none => exact h.symm
 | some x =>
  simp only [Act.put, Act.mk.injEq, and_true] at h ⊢
  subst h
  by_cases hd : x < t.size
  ·simp [putVal, Array.getD_eq_getD_getElem?, hd]
  ·have hd' : t.size ≤ x := Nat.le_of_not_lt hd
   rw [Array.setIfInBounds_eq_of_size_le hd', Array.setIfInBounds_eq_of_size_le hd']
theorem putVal_undef {t F : Array Value} {d : List Deferred} {dst : Option Tmp} (h : ({ tmps := t, defers := d } : Act).put dst undef = { tmps := F, defers := d }) : putVal dst F = undef := by
 cases dst with
 | none => rfl
 | some x =>
  simp only [Act.put, Act.mk.injEq, and_true] at h
  subst h
  simp only [putVal, Array.getD_eq_getD_getElem?, Array.getElem?_setIfInBounds]
  by_cases hd : x < t.size
  ·simp [hd]
  ·simp [hd]
theorem upon_some {o : Oper} {t F : Array Value} {d : List Deferred} {r : Result Next} (h : o.upon P { tmps := t, defers := d } (fun a' w' => a' = { tmps := F, defers := d } ∧ S w') NoOut r) :
  ({ tmps := F, defers := d } : Act) = ({ tmps := t, defers := d } : Act).put o.dst (putVal o.dst F) := by
 cases r with
 | ok n w' =>
  cases n <;> simp only [Oper.upon] at h <;>
   first
    | exact put_putVal h.1
    | (obtain ⟨e, w'', fr, he, _⟩ := h []
       cases e <;> first | exact put_putVal he.1 | exact he.elim | exact (noOut_lets he).elim)
    | (obtain ⟨v, w'', hv, _⟩ := h (Frame.enter P 0 #[] .normal) []
       exact put_putVal hv.1)
    | skip
  rename_i x
  exfalso
  have := congrArg (fun a : Act => a.defers.length) h.1
  cases hd : o.dst <;> simp [hd, Act.put] at this
 | halt x w' => cases x <;> simp only [Oper.upon] at h <;> exact h.elim
theorem wpList_one {o : Oper} {t F : Array Value} {d : List Deferred} {w : World} (h : wpList P ops (fun e a' w' => e = .normal ∧ a' = { tmps := F, defers := d } ∧ S w') [o] { tmps := t, defers := d } w) :
  (Region.wanted o (yielded ops t) = true ∧ o.wp P { tmps := t, defers := d } w (fun a' w' => a' = { tmps := F, defers := d } ∧ S w') NoOut) ∨
  (Region.wanted o (yielded ops t) = false ∧ ({ tmps := t, defers := d } : Act).put o.dst undef = { tmps := F, defers := d }) := by
 unfold wpList at h
 split at h
 ·rename_i hw
  refine .inl ⟨hw, ?_⟩
  rcases h with h | h
  ·unfold Oper.wp at h ⊢
   generalize (execOp ({ tmps := t, defers := d } : Act).eval o).run P w = r at *
   cases r with
   | ok n w' =>
    cases n <;> simp only [Oper.upon, wpList] at h ⊢ <;>
     first
      | exact h.2
      | exact Calls.mono h (fun e w'' he => by cases e <;> first | exact he.2 | exact absurd he.1 (by simp) | (obtain ⟨_, _, h1, _⟩ := he; exact absurd h1 (by simp)))
      | exact Rows.mono h (fun _ _ he => he.2)
   | halt x w' => cases x <;> simp only [Oper.upon] at h ⊢ <;> first | exact h.elim | exact absurd h.1 (by simp)
  ·obtain ⟨_, _, _, h1, _⟩ := h
   exact absurd h1 (by simp)
 ·rename_i hw
  simp only [wpList] at h
  exact .inr ⟨by simpa using hw, h.2.1⟩
theorem seqL_of_W {d : List Deferred} {R : Array Value → Prop} {w0 : World} (h0 : S w0) : ∀ (l : List Oper) (t : Array Value), SeqW P ops S d R l t → SeqL P ops S (fun a => ∃ t, a = { tmps := t, defers := d } ∧ R t) l { tmps := t, defers := d }
 | [], t, h => ⟨t, rfl, h⟩
 | o :: rest, t, h => by
  obtain ⟨F, hF, hr⟩ := h
  have hr' := seqL_of_W h0 rest F hr
  have h1 := wpList_one (hF w0 h0)
  cases hw : Region.wanted o (yielded ops t) with
  | true =>
   rw [hw] at h1
   rcases h1 with ⟨_, h1⟩ | ⟨h1, _⟩
   ·have e := upon_some h1
    refine ⟨putVal o.dst F, .inl ⟨hw, fun w hS => ?_⟩, e ▸ hr'⟩
    rcases wpList_one (hF w hS) with ⟨_, h2⟩ | ⟨h2, _⟩
    ·rw [e] at h2; exact h2
    ·rw [hw] at h2; cases h2
   ·cases h1
  | false =>
   rw [hw] at h1
   rcases h1 with ⟨h1, _⟩ | ⟨_, h1⟩
   ·cases h1
   ·exact ⟨undef, .inr ⟨hw, rfl⟩, h1 ▸ hr'⟩
theorem seqL_split : ∀ (l l' : List Oper) (R : Act → Prop) (a : Act), SeqL P ops S (fun x => SeqL P ops S R l' x) l a → SeqL P ops S R (l ++ l') a
 | [], l', R, a, h => h
 | o :: l, l', R, a, h => by
  obtain ⟨v, h1, h2⟩ := h
  exact ⟨v, h1, seqL_split l l' R _ h2⟩
theorem seq_split (ok : Ok ops) {a0 : Act} {R : Act → Prop} : ∀ (l : List Oper) (i : Nat) (val0 : Nat → Value) (a : Act), (∀ j o, l[j]? = some o → ops[i + j]? = some o) → Fr ops val0 a0 (fun j => decide (j < i)) a → SeqL P ops S R l a →
  ∃ val : Nat → Value, (∀ j, j < i → val j = val0 j) ∧ (∀ k o, i ≤ k → k < i + l.length → ops[k]? = some o → ∃ x, Fr ops val a0 (fun j => decide (j < k)) x ∧ StepV P ops S x o (val k)) ∧
   ∃ x, Fr ops val a0 (fun j => decide (j < i + l.length)) x ∧ R x
 | [], i, val0, a, hl, hf, h => ⟨val0, fun _ _ => rfl, fun k o hk ho => absurd ho (by simp; omega), a, hf, h⟩
 | o :: rest, i, val0, a, hl, hf, h => by
  obtain ⟨v, hs, hrest⟩ := h
  have hi : ops[i]? = some o := hl 0 o (by simp)
  let val1 : Nat → Value := fun j => if j = i then v else val0 j
  have hf1 : Fr ops val1 a0 (fun j => decide (j < i)) a := fr_congr hf (fun _ _ => rfl) (fun j hj => by
   have : j < i := by simpa using hj
   show (if j = i then v else val0 j) = _
   rw [if_neg (by omega)])
  have hv1 : val1 i = v := if_pos rfl
  have hf2 : Fr ops val1 a0 (fun j => decide (j < i + 1)) (a.put o.dst v) := by
   rw [← hv1]
   exact fr_put ok hi hf1 fun j _ => by
    rw [Bool.eq_iff_iff]; simp; omega
  obtain ⟨val, hv, hsteps, hend⟩ := seq_split ok rest (i + 1) val1 (a.put o.dst v) (fun j o' hj => by
   have := hl (j + 1) o' (by simpa using hj)
   rw [show i + 1 + j = i + (j + 1) by omega]; exact this) hf2 hrest
  refine ⟨val, fun j hj => ?_, fun k ok' hk hkl hko => ?_, ?_⟩
  ·rw [hv j (by omega)]
   show (if j = i then v else val0 j) = _
   rw [if_neg (by omega)]
  ·by_cases hki : k = i
   ·subst hki
    rw [hi] at hko
    cases hko
    refine ⟨a, fr_congr hf1 (fun _ _ => rfl) (fun j hj => hv j (Nat.lt_succ_of_lt (by simpa using hj))), ?_⟩
    rw [hv k (by omega), hv1]
    exact hs
   ·exact hsteps k ok' (by omega) (by simp only [List.length_cons] at hkl; omega) hko
  ·rw [show i + (o :: rest).length = i + 1 + rest.length by simp only [List.length_cons]; omega]
   exact hend
theorem rep_false (n i : Nat) : (Array.replicate n false).getD i false = false := by
 rw [Array.getD_eq_getD_getElem?, Array.getElem?_replicate]
 split <;> rfl
theorem region_det {id : Nat} {l : List Oper} {t : Array Value} {d : List Deferred} {w : World} (S : World → Prop) (k : Nat) (hm : P.follows .mixedOrders = true) (hok : okOps l.toArray = true) (ht : tailOk l.toArray k = true) (hk : k ≤ l.length) (hS : S w.drew)
  (h : SeqW P l.toArray S d (fun t' => ∀ w', S w' → wpList P l.toArray Q (l.drop k) { tmps := t', defers := d } w') (l.take k) t) : (Code.region id l.toArray true).wp P Q { tmps := t, defers := d } w := by
 have ok := okOps_spec hok
 have hlen : l.toArray.size = l.length := by simp
 refine wp_region_any hm ?_
 obtain ⟨val, _, hsteps, x, hfx, t', rfl, hR⟩ := seq_split ok (l.take k) 0 (fun _ => undef) { tmps := t, defers := d } (fun j o hj => by
  rw [List.getElem?_take] at hj
  split at hj
  ·simpa using hj
  ·cases hj) (fr_start _ _ _ fun i _ => by simp) (seqL_of_W hS _ _ h)
 have hlk : 0 + (l.take k).length = k := by rw [List.length_take]; omega
 rw [hlk] at hsteps hfx
 refine any_det ok (k := k) (by omega) ht (val := val) (fun i o hi ho => hsteps i o (Nat.zero_le _) hi ho) (fun y hy w' hS' => ?_) _ _ _ _ (by simp) ?_ ?_ ?_ ?_ hS
 ·rw [fr_eq hy hfx fun _ _ => rfl]
  exact hR w' hS'
 ·have : ∀ (L : Nat → Bool) n, cnt L n ≤ n := fun L n => by
   induction n with
   | zero => exact Nat.le_refl _
   | succ n ih => simp only [cnt]; split <;> omega
  exact this _ _
 ·intro i o hi hl
  rw [rep_false] at hl
  cases hl
 ·intro i hi hl
  rw [rep_false] at hl
  cases hl
 ·exact fr_start _ _ _ fun i hi => rep_false _ i
def AtEnd (S : World → Prop) (d : List Deferred) (t' : Array Value) : Exit → Act → World → Prop := fun e a' w' => e = .normal ∧ a' = { tmps := t', defers := d } ∧ S w'
theorem AtEnd.mk {d : List Deferred} {t' : Array Value} {w : World} (h : S w) : AtEnd S d t' .normal { tmps := t', defers := d } w := ⟨rfl, rfl, h⟩
theorem seqW_cons {d : List Deferred} {R : Array Value → Prop} {o : Oper} {rest : List Oper} {t t' : Array Value} (h : ∀ w, S w → wpList P ops (AtEnd S d t') [o] { tmps := t, defers := d } w)
  (hr : SeqW P ops S d R rest t') : SeqW P ops S d R (o :: rest) t := ⟨t', h, hr⟩
theorem seqW_nil {d : List Deferred} {R : Array Value → Prop} {t : Array Value} (h : R t) : SeqW P ops S d R [] t := h
theorem region_all {id : Nat} {l : List Oper} {t : Array Value} {d : List Deferred} {w : World} (S : World → Prop) (hm : P.follows .mixedOrders = true) (hok : okOps l.toArray = true) (hS : S w.drew)
  (h : SeqW P l.toArray S d (fun t' => ∀ w', S w' → Q .normal { tmps := t', defers := d } w') l t) : (Code.region id l.toArray true).wp P Q { tmps := t, defers := d } w := by
 have ht : tailOk l.toArray l.length = true := by
  unfold tailOk
  rw [List.all_eq_true]
  intro j hj
  have : j < l.length := by simpa using hj
  simp [this]
 refine region_det S l.length hm hok ht (Nat.le_refl _) hS ?_
 rw [List.take_of_length_le (Nat.le_refl _), List.drop_of_length_le (Nat.le_refl _)]
 exact h
end Go.Det
namespace Go.Proofs.Ytbddfnmhhmkfkaa.Pr
set_option linter.unusedVariables false
set_option linter.unusedSimpArgs false
open Go.RowKit Go.Proofs.YtbddfnmhhmkfkaaW.PrintWords
attribute [local go_sem] Oper.semAt_some
def farP (n : Int) : Bool := decide (n < 0) || decide (2000 < n)
def oddP (x : S43) : Bool := decide (x.f0 < 1) || decide (4 < x.f0) || farP x.f1 || farP x.f2 || farP x.f3
def item (x : S43) : Value := .agg #[.int .i64 x.f0, .int .i64 x.f1, .int .i64 x.f2, .int .i64 x.f3, .int .i64 x.f4]
theorem far_calls (n : Int) (w : World) : Calls Try.prog 50 #[.int .i64 n] w fun e w' => e = .returned (.bool (farP n)) ∧ w' = w := by
 unfold farP
 go_enter Try.func50, Try.ntmps50
 go_wp2
 all_goals (go_ret; simp [*])
set_option maxHeartbeats 4000000 in
theorem odd_calls (x : S43) (B : Nat) (W : World) (hB : B < W.heap.size) (hc : W.cell? ⟨B, 0, none⟩ = some (.func (.func 50) #[] #[])) :
  Calls Try.prog 51 #[item x, .pointer (some ⟨B, 0, none⟩)] W fun e w' => e = .returned (.bool (oddP x)) ∧ Below W.heap.size W w' := by
 obtain ⟨f0, f1, f2, f3, f4⟩ := x
 have hb0 : Below W.heap.size W (W.alloc (.cells #[.int .i64 f0, .int .i64 f1, .int .i64 f2, .int .i64 f3, .int .i64 f4] 43)) := (Below.refl _ W).alloc (Nat.le_refl _) _
 have hc' : (W.alloc (.cells #[.int .i64 f0, .int .i64 f1, .int .i64 f2, .int .i64 f3, .int .i64 f4] 43)).cell? ⟨B, 0, none⟩ = some (.func (.func 50) #[] #[]) := (hb0.cell (p := ⟨B, 0, none⟩) hB).trans hc
 unfold item oddP
 dsimp only
 by_cases h1 : f0 < 1
 ·go_enter Try.func51, Try.ntmps51
  go_wp2
  go_ret
  exact ⟨by simp [h1], hb0⟩
 ·by_cases h2 : 4 < f0
  ·go_enter Try.func51, Try.ntmps51
   go_wp2
   go_ret
   exact ⟨by simp [h1, h2], hb0⟩
  ·have e1 := fun w => far_calls f1 w
   have e2 := fun w => far_calls f2 w
   have e3 := fun w => far_calls f3 w
   generalize farP f1 = b1 at *
   generalize farP f2 = b2 at *
   generalize farP f3 = b3 at *
   have E1 := Lib.hid e1
   have E2 := Lib.hid e2
   have E3 := Lib.hid e3
   clear e1 e2 e3
   have g1 : decide (f0 < 1) = false := decide_eq_false h1
   have g2 : decide (4 < f0) = false := decide_eq_false h2
   rw [g1, g2]
   have HG := Lib.hid (And.intro g1 g2)
   clear g1 g2
   have g3 : 1 ≤ f0 := by omega
   have g4 : f0 ≤ 4 := by omega
   clear h1 h2
   go_enter Try.func51, Try.ntmps51
   go_wp2_with (go_at_call 50; (first | (with_reducible refine (E1.out _).mono ?_) | (with_reducible refine (E2.out _).mono ?_) | (with_reducible refine (E3.out _).mono ?_)); rintro e w1 ⟨rfl, rfl⟩)
   all_goals
    go_ret
    have e1 := HG.out.1
    have e2 := HG.out.2
    exact ⟨by simp [*], hb0⟩
def idxO : List S43 → Int → Int
 | [], _ => -1
 | x :: xs, i => if oddP x then i else idxO xs (i + 1)
set_option maxHeartbeats 2000000 in
theorem indexItem_calls (B : Nat) (A : Option Addr) (c : Nat) (xs : List S43) (w : World) (hx : xs.length ≤ 140737488351232) (hA : Kd.C k43 w A xs.length xs) (hB : B < w.heap.size) (hc : w.cell? ⟨B, 0, none⟩ = some (.func (.func 50) #[] #[])) :
  Calls Try.prog 76 #[.slice A xs.length c, .func (.func 51) #[] #[.pointer (some ⟨B, 0, none⟩)]] w fun e w' => e = .returned (.int .i64 (idxO xs 0)) ∧ Below w.heap.size w w' := by
 have hcW : ∀ W', Below w.heap.size w W' → W'.cell? ⟨B, 0, none⟩ = some (.func (.func 50) #[] #[]) := fun W' hb => (hb.cell (p := ⟨B, 0, none⟩) hB).trans hc
 obtain ⟨n, hn⟩ : ∃ n, xs.length = n := ⟨_, rfl⟩
 have HA := Lib.hid hA
 have HC := Lib.hid hcW
 have hn1 : n ≤ 140737488351232 := by omega
 rw [hn]
 have HN := Lib.hid hn
 clear hn hA hcW hc hx
 go_enter Try.func76, Try.ntmps76
 go_wp2
 go_loopw [8] (fun v wr => ∃ (k : Nat) (rest : List S43), xs.drop k = rest ∧ Hid (idxO xs 0 = idxO rest k) ∧ v = .int .i64 k ∧ k ≤ n ∧ Below w.heap.size w wr) (fun v _ => n - (intOf v).toNat)
 case atStart => exact ⟨0, xs, rfl, Lib.hid rfl, rfl, by omega, Below.refl _ _⟩
 case round =>
  obtain ⟨k, rest, hr, H, rfl, hk, hB2⟩ := hrel
  by_cases hlt : k < n
  ·have hl2 : (k : Int) < (n : Int) := by omega
   obtain ⟨x, rest, rfl⟩ : ∃ x r, rest = x :: r := by
    cases rest with
    | nil =>
     have := congrArg List.length hr
     simp at this
     have := HN.out
     omega
    | cons x r => exact ⟨x, r, rfl⟩
   have hxk : xs[k]? = some x := by
    have := congrArg (fun l => l[0]?) hr
    simpa using this
   have hr' : xs.drop (k + 1) = rest := by
    have := congrArg List.tail hr
    simpa using this
   have HR := Lib.hid hr'
   obtain ⟨ad, e1, q0, q1, q2, q3, q4⟩ := at_T43 (Kd.C_below HA.out hB2) k (by omega) (by have := HN.out; omega)
   cases e1
   have hxx : rd_T43 xs k = x := by
    unfold rd_T43
    rw [Int.toNat_natCast, List.getD_eq_getElem?_getD, hxk]
    rfl
   rw [hxx] at q0 q1 q2 q3 q4
   simp only [Int.toNat_natCast] at q0 q1 q2 q3 q4
   have hcall := odd_calls x B wr (by have := hB2.size; omega) (HC.out wr hB2)
   have hidx : idxO xs 0 = if oddP x then (k : Int) else idxO rest ((k + 1 : Nat) : Int) := by rw [H.out]; rfl
   have HCL := Lib.hid hcall
   have HI := Lib.hid hidx
   clear hr hr' hxk hcall hidx hxx H
   unfold item at HCL
   generalize oddP x = bb at *
   obtain ⟨f0, f1, f2, f3, f4⟩ := x
   go_wp2_with fail
   refine HCL.out.mono ?_
   rintro e w' ⟨rfl, hb'⟩
   clear q0 q1 q2 q3 q4 HCL
   cases bb
   ·go_wp2
    go_roundw
    case rel => exact ⟨k + 1, rest, HR.out, Lib.hid HI.out, by go_num, by omega, hB2.trans (hb'.mono hB2.size)⟩
    case measure => simp [intOf]; omega
   ·go_wp2
    go_ret
    exact ⟨by rw [HI.out]; rfl, hB2.trans (hb'.mono hB2.size)⟩
  ·have hk2 : ¬ (k : Int) < (n : Int) := by omega
   have hnil : rest = [] := by
    rw [← hr]; apply List.drop_eq_nil_of_le; have := HN.out; omega
   subst hnil
   have hi : idxO xs 0 = -1 := H.out
   have HI := Lib.hid hi
   clear hi hr H
   go_wp2
   go_ret
   exact ⟨by rw [HI.out]; rfl, hB2⟩
theorem idxO_lt (xs : List S43) : ∀ i : Int, 0 ≤ i → (decide (0 ≤ idxO xs i) = xs.any oddP) := by
 induction xs with
 | nil => intro i h; rfl
 | cons x xs ih =>
  intro i h
  by_cases hx : oddP x = true
  ·have e : idxO (x :: xs) i = i := if_pos hx
   rw [e, List.any_cons, hx]
   simp [h]
  ·have e : idxO (x :: xs) i = idxO xs (i + 1) := if_neg hx
   rw [e, ih (i + 1) (by omega), List.any_cons]
   simp only [Bool.not_eq_true] at hx
   rw [hx, Bool.false_or]
set_option maxHeartbeats 1000000 in
theorem hasItem_calls (B : Nat) (A : Option Addr) (c : Nat) (xs : List S43) (w : World) (hx : xs.length ≤ 140737488351232) (hA : Kd.C k43 w A xs.length xs) (hB : B < w.heap.size) (hc : w.cell? ⟨B, 0, none⟩ = some (.func (.func 50) #[] #[])) :
  Calls Try.prog 52 #[.slice A xs.length c, .func (.func 51) #[] #[.pointer (some ⟨B, 0, none⟩)]] w fun e w' => e = .returned (.bool (xs.any oddP)) ∧ Below w.heap.size w w' := by
 have h1 := indexItem_calls B A c xs w hx hA hB hc
 have h2 := idxO_lt xs 0 (Int.le_refl _)
 rw [← h2]
 have H1 := Lib.hid h1
 clear h1 h2 hA hc
 generalize idxO xs 0 = i at *
 go_enter Try.func52, Try.ntmps52
 go_wp2_with fail
 refine H1.out.mono ?_
 rintro e w' ⟨rfl, hb'⟩
 go_wp2
 go_ret
 exact ⟨rfl, hb'⟩
def checkP (l : List S43) (w : Int) : Int := if w < 1 ∨ 1000000 < w ∨ 16384 < l.length ∨ l.any oddP = true then 1 else 0
def best_Check.f (l0 : List S43) (a1 : Int) : Option Int := some (checkP l0 a1)
theorem run_store_func {P : Program} {w : World} {a : Addr} {m : Mode} (f : Fn) (b c : Array Value) : (store a (.func f b c) m).run P w = stored P w a (.func f b c) m := run_store P w a _ m rfl
attribute [local go_sem] run_store_func
set_option maxHeartbeats 2000000 in
theorem best_Check.calls (A0 : Option Addr) (c0 : Nat) (l0 : List S43) (a1 : Int) (r : Int) (w : World) (hr0 : Kd.C k43 w A0 l0.length l0) (hc0 : l0.length ≤ c0) (h : best_Check.f l0 a1 = some r) :
  Calls Try.prog 16 #[.slice A0 l0.length c0, .int .i64 a1] w fun e w' => e = .returned (.int .i64 r) ∧ Below w.heap.size w w' := by
 obtain rfl := Option.some.inj h
 clear h
 have hb0 : Below w.heap.size w (w.alloc (.cells #[.func (.func 50) #[] #[]] 81)) := (Below.refl _ w).alloc (Nat.le_refl _) _
 unfold checkP
 by_cases h1 : a1 < 1
 ·rw [if_pos (.inl h1)]
  go_enter Try.func16, Try.ntmps16
  go_wp2
  go_ret
  exact ⟨rfl, hb0⟩
 ·by_cases h2 : 1000000 < a1
  ·rw [if_pos (.inr (.inl h2))]
   go_enter Try.func16, Try.ntmps16
   go_wp2
   go_ret
   exact ⟨rfl, hb0⟩
  ·by_cases h3 : 16384 < l0.length
   ·rw [if_pos (.inr (.inr (.inl h3)))]
    have h3' : (16384 : Int) < (l0.length : Int) := by omega
    go_enter Try.func16, Try.ntmps16
    go_wp2
    go_ret
    exact ⟨rfl, hb0⟩
   ·have h3' : (l0.length : Int) ≤ 16384 := by omega
    have hcall := hasItem_calls w.heap.size A0 c0 l0 (w.alloc (.cells #[.func (.func 50) #[] #[]] 81)) (by omega) (Kd.C_alloc hr0 _) (by simp) (by rw [blk_cell (blk_new w _) 0]; rfl)
    have e0 : (if a1 < 1 ∨ 1000000 < a1 ∨ 16384 < l0.length ∨ l0.any oddP = true then (1 : Int) else 0) = if l0.any oddP = true then 1 else 0 := by
     by_cases h4 : l0.any oddP = true
     ·rw [if_pos h4, if_pos (.inr (.inr (.inr h4)))]
     ·rw [if_neg h4, if_neg (by rintro (h | h | h | h) <;> first | exact h4 h | omega)]
    rw [e0]
    have HC := Lib.hid hcall
    have g1 : 1 ≤ a1 := by omega
    have g2 : a1 ≤ 1000000 := by omega
    clear hcall e0 h1 h2 h3 hr0 hc0
    generalize l0.any oddP = b at *
    go_enter Try.func16, Try.ntmps16
    go_wp2_with fail
    refine HC.out.mono ?_
    rintro e w' ⟨rfl, hb'⟩
    cases b
    ·go_wp2
     go_ret
     exact ⟨rfl, below_step hb0 hb'⟩
    ·go_wp2
     go_ret
     exact ⟨rfl, below_step hb0 hb'⟩
def sumP (s : S85) (x : S43) : S85 :=
 if x.f0 = 2 then ⟨wrap64 (s.f0 + x.f1), wrap64 (s.f1 + x.f2), wrap64 (s.f2 + x.f3)⟩
 else if x.f0 = 1 ∨ x.f0 = 4 then ⟨wrap64 (s.f0 + x.f1), s.f1, s.f2⟩ else s
def sumsP : S85 → List S43 → List S85
 | s, [] => [s]
 | s, x :: l => s :: sumsP (sumP s x) l
def sumAt (l : List S43) (k : Nat) : S85 := (l.take k).foldl sumP z85
def sumsTo (l : List S43) (k : Nat) : List S85 := (List.range (k + 1)).map (sumAt l)
def flat85 (xs : List S85) : List Value := xs.flatMap fun x => [.int .i64 x.f0, .int .i64 x.f1, .int .i64 x.f2]
theorem flat85_length (xs : List S85) : (flat85 xs).length = xs.length * 3 := by
 induction xs with
 | nil => rfl
 | cons x xs ih => simp [flat85] at ih ⊢; omega
theorem flat85_snoc (xs : List S85) (x : S85) : flat85 (xs ++ [x]) = flat85 xs ++ [.int .i64 x.f0, .int .i64 x.f1, .int .i64 x.f2] := by simp [flat85]
theorem sumsTo_succ (l : List S43) (k : Nat) : sumsTo l (k + 1) = sumsTo l k ++ [sumAt l (k + 1)] := by
 unfold sumsTo
 rw [List.range_succ, List.map_append]
 rfl
theorem sumAt_succ (l : List S43) (k : Nat) (x : S43) (h : l[k]? = some x) : sumAt l (k + 1) = sumP (sumAt l k) x := by
 unfold sumAt
 rw [List.take_add_one, h]
 simp
theorem info85h : (Try.prog.info? 85).map (fun i => (i.zero, i.size, i.bytes)) = some (some (.agg #[(.int .i64 0), (.int .i64 0), (.int .i64 0)]), 3, 24) := by kernel_rfl
theorem sums_last (l : List S43) (k : Nat) : ∃ pre, flat85 (sumsTo l k) = pre ++ [.int .i64 (sumAt l k).f0, .int .i64 (sumAt l k).f1, .int .i64 (sumAt l k).f2] ∧ pre.length = k * 3 := by
 refine ⟨flat85 ((List.range k).map (sumAt l)), ?_, by rw [flat85_length]; simp⟩
 unfold sumsTo
 rw [List.range_succ, List.map_append]
 exact flat85_snoc _ _
theorem sums_next (l : List S43) (k : Nat) (x : S43) (h : l[k]? = some x) : flat85 (sumsTo l (k + 1)) = flat85 (sumsTo l k) ++ [.int .i64 (sumP (sumAt l k) x).f0, .int .i64 (sumP (sumAt l k) x).f1, .int .i64 (sumP (sumAt l k) x).f2] := by
 rw [sumsTo_succ, flat85_snoc, sumAt_succ l k x h]
theorem cells_new (w : World) (cs : List Value) (t : TypeId) : ∀ j u, cs[j]? = some u → (w.alloc (.cells cs.toArray t)).cell? ((⟨w.heap.size, 0, none⟩ : Addr).add j) = some u := by
 intro j u hj
 rw [add_plain]
 simp only [World.cell?, heap_alloc_new]
 simpa using hj
theorem made3 (n : Nat) : (madeCells #[.int .i64 0, .int .i64 0, .int .i64 0] ((n + 1) * 3)).toList.take (1 * 3) = [.int .i64 0, .int .i64 0, .int .i64 0] := by
 apply List.ext_getElem?
 intro j
 rw [List.getElem?_take]
 rcases j with _ | _ | _ | j
 ·simp [madeCells]
 ·have h1 : 1 < (n + 1) * 3 := by omega
  simp [madeCells, h1]
 ·have h2 : 2 < (n + 1) * 3 := by omega
  simp [madeCells, h2]
 ·rw [if_neg (by omega)]
  rfl
theorem own_apart {w : World} {base e size n : Nat} {v : Value} {xs : List Value} (h : w.ownsRow base e size v n xs) {b : Nat} {t : TypeId} {cs : Array Value} (hb : w.heap[b]? = some (.cells cs t (0, 0))) (hne : t ≠ e) : some b ≠ v.ownBlock := by
 rcases h.2 with ⟨rfl, _⟩ | ⟨g, cap, cur, rfl, _, hg, _⟩
 ·simp [Value.ownBlock]
 ·have := blk_ne hb hg hne
  simpa [Value.ownBlock] using this
set_option pp.maxSteps 3000 in
set_option maxRecDepth 100000 in
set_option maxHeartbeats 2000000 in
theorem begin_calls (A : Option Addr) (c : Nat) (l : List S43) (wd : Int) (w : World) (hl : l.length ≤ 1000000) (hA : Kd.C k43 w A l.length l) :
  Calls Try.prog 43 #[.slice A l.length c, .int .i64 wd] w fun e w' => ∃ v, e = .returned (.agg #[.slice A l.length c, .int .i64 wd, v]) ∧ w'.ownsRow w.heap.size 85 3 v (l.length + 1) (flat85 (sumsTo l l.length)) ∧ Below w.heap.size w w' := by
 obtain ⟨i0, hi, hz0, hz1, hz2⟩ := info_parts info85h
 have HA := Lib.hid hA
 obtain ⟨n, hn⟩ : ∃ n, l.length = n := ⟨_, rfl⟩
 rw [hn] at hl ⊢
 have HN := Lib.hid hn
 clear hn hA
 have hn1 : (n : Int) ≤ 1000000 := by omega
 have hmk : ∀ W : World, (Instr.makeSlice 65 (.int .i64 1) (.int .i64 ((n : Int) + 1))).run Try.prog W = .ok (.slice (some ⟨W.heap.size, 0, none⟩) 1 (n + 1)) (W.alloc (.cells (madeCells #[.int .i64 0, .int .i64 0, .int .i64 0] ((n + 1) * 3)) 85)) := fun W => by
  have hr := run_make (P := Try.prog) W 65 85 i0 _ Try.underlying65 hi hz0 .i64 .i64 1 ((n : Int) + 1) (by omega) (by omega) (by rw [hz2]; omega) (by omega)
  rw [hz1, show ((n : Int) + 1).toNat = n + 1 by omega] at hr
  exact hr
 have hrow0 : ∀ W : World, (W.alloc (.cells (madeCells #[.int .i64 0, .int .i64 0, .int .i64 0] ((n + 1) * 3)) 85)).ownsRow W.heap.size 85 3 (.slice (some ⟨W.heap.size, 0, none⟩) 1 (n + 1)) 1 [.int .i64 0, .int .i64 0, .int .i64 0] := fun W => by
  refine ⟨rfl, .inr ⟨W.heap.size, n + 1, _, rfl, Nat.le_refl _, heap_alloc_new W _, by omega, by unfold maxLen; omega, size_madeCells _ _, ?_⟩⟩
  exact made3 n
 have HR0 := Lib.hid hrow0
 clear hrow0
 go_enter Try.func43, Try.ntmps43
 go_wp2_with fail
 go_loopw [18] (fun v wr => ∃ (k : Nat) (u : Value), v = .int .i64 k ∧ k ≤ n ∧ wr.heap[w.heap.size + 1 + 1]? = some (.cells #[.slice A n c, .int .i64 wd, u] 67 (0, 0)) ∧ wr.heap[w.heap.size]? = some (.cells #[.slice none 0 0, .int .i64 0, .slice none 0 0] 67 (0, 0)) ∧
   wr.ownsRow (w.heap.size + 1) 85 3 u (k + 1) (flat85 (sumsTo l k)) ∧ Below w.heap.size w wr) (fun v _ => n - (intOf v).toNat)
 case atStart =>
  have b1 := blk_new w (.cells #[.slice none 0 0, .int .i64 0, .slice none 0 0] 67)
  have r1 := HR0.out (w.alloc (.cells #[.slice none 0 0, .int .i64 0, .slice none 0 0] 67))
  have hB1 := (((Below.refl _ w).alloc (Nat.le_refl _) (.cells #[.slice none 0 0, .int .i64 0, .slice none 0 0] 67)).alloc (by simp) (.cells (madeCells #[.int .i64 0, .int .i64 0, .int .i64 0] ((n + 1) * 3)) 85))
  have b2 := blk_alloc b1 (.cells (madeCells #[.int .i64 0, .int .i64 0, .int .i64 0] ((n + 1) * 3)) 85)
  have b3 := blk_new ((w.alloc (.cells #[.slice none 0 0, .int .i64 0, .slice none 0 0] 67)).alloc (.cells (madeCells #[.int .i64 0, .int .i64 0, .int .i64 0] ((n + 1) * 3)) 85)) (.cells #[.slice A n c, .int .i64 wd, .slice (some ⟨w.heap.size + 1, 0, none⟩) 1 (n + 1)] 67)
  simp only [World.size_alloc] at r1 b3
  exact ⟨0, _, rfl, Nat.zero_le _, b3, blk_alloc b2 _, r1.alloc _, hB1.alloc (by simp; omega) _⟩
 case round =>
  obtain ⟨k, u, rfl, hk, hF, hR, hown, hB⟩ := hrel
  by_cases hlt : k < n
  ·have hlt1 : (k : Int) < (n : Int) := by omega
   obtain ⟨ad, e1, q0, q1, q2, q3, q4⟩ := at_T43 (Kd.C_below HA.out hB) k (by omega) (by have := HN.out; omega)
   cases e1
   have hxk : l[k]? = some (rd_T43 l k) := by
    unfold rd_T43
    rw [Int.toNat_natCast, List.getD_eq_getElem?_getD, List.getElem?_eq_getElem (by have := HN.out; omega)]
    rfl
   have hnx := sums_next l k _ hxk
   obtain ⟨pre, hp, hpl⟩ := sums_last l k
   obtain ⟨g, cap, rfl⟩ := ownsRow_succ hown
   have HP := Lib.hid hp
   have HNX := Lib.hid hnx
   have HO := Lib.hid hown
   have HF := Lib.hid hF
   have HRR := Lib.hid hR
   have hca : ∀ o : Obj, (wr.alloc o).cell? ⟨w.heap.size + 1 + 1, 2, none⟩ = some (.slice (some ⟨g, 0, none⟩) (k + 1) cap) ∧ (wr.alloc o).cell? ⟨g, k * 3, none⟩ = some (.int .i64 (sumAt l k).f0) ∧ (wr.alloc o).cell? ⟨g, k * 3 + 1, none⟩ = some (.int .i64 (sumAt l k).f1) ∧ (wr.alloc o).cell? ⟨g, k * 3 + 2, none⟩ = some (.int .i64 (sumAt l k).f2) := fun o => by
    have s0 := (HO.out.alloc o).cellAt (k * 3) (by omega)
    have s1 := (HO.out.alloc o).cellAt (k * 3 + 1) (by omega)
    have s2 := (HO.out.alloc o).cellAt (k * 3 + 2) (by omega)
    rw [hp, List.getElem?_append_right (by omega), hpl, Nat.sub_self] at s0
    rw [hp, List.getElem?_append_right (by omega), hpl, show k * 3 + 1 - k * 3 = 1 by omega] at s1
    rw [hp, List.getElem?_append_right (by omega), hpl, show k * 3 + 2 - k * 3 = 2 by omega] at s2
    exact ⟨by rw [blk_cell (blk_alloc HF.out o) 2]; rfl, s0, s1, s2⟩
   clear hnx hp hpl hxk hown HP hF hR
   generalize rd_T43 l k = x at *
   generalize sumAt l k = s at *
   obtain ⟨f0, f1, f2, f3, f4⟩ := x
   obtain ⟨t0, t1, t2⟩ := s
   obtain ⟨c2, s0, s1, s2⟩ := hca (.cells #[.int .i64 f0, .int .i64 f1, .int .i64 f2, .int .i64 f3, .int .i64 f4] 43)
   simp only [Int.toNat_natCast] at q0 q1 q2 q3 q4 s0 s1 s2
   have hcb : ∀ o o' : Obj, ((wr.alloc o).alloc o').cell? ⟨w.heap.size + 1 + 1, 2, none⟩ = some (.slice (some ⟨g, 0, none⟩) (k + 1) cap) := fun o o' => by rw [blk_cell (blk_alloc (blk_alloc HF.out o) o') 2]; rfl
   by_cases h2 : f0 = 2
   ·subst h2
    go_wp2_with (at_builtin; refine wpList_append_own _ rfl _ _ 65 rfl (w.heap.size + 1) 85 i0 (.agg #[(.int .i64 0), (.int .i64 0), (.int .i64 0)]) 3 24 Try.underlying65 hi hz0 hz1 hz2 rfl (by decide) _ _ _ rfl (((HO.out.alloc _).alloc _).alloc _) _ 1 1 [.int .i64 (wrap64 (t0 + f1)), .int .i64 (wrap64 (t1 + f2)), .int .i64 (wrap64 (t2 + f3))] rfl rfl ?e1 ?e2 ?e3 ?e4 ?e5 ?e6)
    try (case e1 =>
     have := cells_new ((wr.alloc (.cells #[.int .i64 f0, .int .i64 f1, .int .i64 f2, .int .i64 f3, .int .i64 f4] 43)).alloc (.cells #[.int .i64 (wrap64 (t0 + f1)), .int .i64 (wrap64 (t1 + f2)), .int .i64 (wrap64 (t2 + f3))] 85)) [.int .i64 (wrap64 (t0 + f1)), .int .i64 (wrap64 (t1 + f2)), .int .i64 (wrap64 (t2 + f3))] 85
     simp only [World.size_alloc] at this
     exact this)
    case e2 => simp [Value.oneCell']
    case e3 => unfold maxLen; omega
    case e4 => omega
    case e5 => have := hB.size; simp; omega
    case e6 =>
     intro v' w1 hown' hgrow _
     obtain ⟨A', c', rfl⟩ := own_slice hown'
     have hF1 := blk_grown (blk_alloc (blk_alloc (blk_alloc HF.out _) _) _) hgrow (own_apart HO.out HF.out (by decide))
     have hR1 := blk_grown (blk_alloc (blk_alloc (blk_alloc HRR.out _) _) _) hgrow (own_apart HO.out HRR.out (by decide))
     have hBs := hB.size
     have hB1 : Below w.heap.size w w1 := (((hB.alloc hBs _).alloc (by simp; omega) _).alloc (by simp; omega) _).grown hgrow (by simp; omega) fun j hj => (by have := own_base HO.out j hj; omega)
     have hne1 := own_apart hown' hF1 (by decide)
     have hnx : flat85 (sumsTo l (k + 1)) = flat85 (sumsTo l k) ++ [.int .i64 (wrap64 (t0 + f1)), .int .i64 (wrap64 (t1 + f2)), .int .i64 (wrap64 (t2 + f3))] := by
      refine HNX.out.trans ?_
      simp [sumP]
     rw [← hnx] at hown'
     have c0 := blk_cell hF1 2
     simp only [List.getElem?_toArray, List.getElem?_cons_succ, List.getElem?_cons_zero] at c0
     have z0 := blk_frozen hF1 2
     have HF1 := Lib.hid hF1
     have HR1 := Lib.hid hR1
     have HO1 := Lib.hid hown'
     have HN1 := Lib.hid hne1
     clear hF1 hR1 hown' hne1 hgrow q0 q1 q2 q3 q4 s0 s1 s2 c2 hca hcb hnx
     go_wp2
     go_roundw
     case rel => exact ⟨k + 1, .slice A' (k + 1 + 1) c', by go_num, by omega, blk_put HF1.out 2 _ rfl, blk_far HR1.out (by simp; omega) _, own_setCell HO1.out HN1.out _, hB1.setCell (by simp; omega) _⟩
     case measure => simp [intOf]; omega
   ·by_cases h1 : f0 = 1
    ·subst h1
     go_wp2_with (at_builtin; refine wpList_append_own _ rfl _ _ 65 rfl (w.heap.size + 1) 85 i0 (.agg #[(.int .i64 0), (.int .i64 0), (.int .i64 0)]) 3 24 Try.underlying65 hi hz0 hz1 hz2 rfl (by decide) _ _ _ rfl (((HO.out.alloc _).alloc _).alloc _) _ 1 1 [.int .i64 (wrap64 (t0 + f1)), .int .i64 (t1), .int .i64 (t2)] rfl rfl ?x1 ?x2 ?x3 ?x4 ?x5 ?x6)
     try (case x1 =>
      have := cells_new ((wr.alloc (.cells #[.int .i64 f0, .int .i64 f1, .int .i64 f2, .int .i64 f3, .int .i64 f4] 43)).alloc (.cells #[.int .i64 (wrap64 (t0 + f1)), .int .i64 (t1), .int .i64 (t2)] 85)) [.int .i64 (wrap64 (t0 + f1)), .int .i64 (t1), .int .i64 (t2)] 85
      simp only [World.size_alloc] at this
      exact this)
     case x2 => simp [Value.oneCell']
     case x3 => unfold maxLen; omega
     case x4 => omega
     case x5 => have := hB.size; simp; omega
     case x6 =>
      intro v' w1 hown' hgrow _
      obtain ⟨A', c', rfl⟩ := own_slice hown'
      have hF1 := blk_grown (blk_alloc (blk_alloc (blk_alloc HF.out _) _) _) hgrow (own_apart HO.out HF.out (by decide))
      have hR1 := blk_grown (blk_alloc (blk_alloc (blk_alloc HRR.out _) _) _) hgrow (own_apart HO.out HRR.out (by decide))
      have hBs := hB.size
      have hB1 : Below w.heap.size w w1 := (((hB.alloc hBs _).alloc (by simp; omega) _).alloc (by simp; omega) _).grown hgrow (by simp; omega) fun j hj => (by have := own_base HO.out j hj; omega)
      have hne1 := own_apart hown' hF1 (by decide)
      have hnx : flat85 (sumsTo l (k + 1)) = flat85 (sumsTo l k) ++ [.int .i64 (wrap64 (t0 + f1)), .int .i64 (t1), .int .i64 (t2)] := by
       refine HNX.out.trans ?_
       simp [sumP]
      rw [← hnx] at hown'
      have c0 := blk_cell hF1 2
      simp only [List.getElem?_toArray, List.getElem?_cons_succ, List.getElem?_cons_zero] at c0
      have z0 := blk_frozen hF1 2
      have HF1 := Lib.hid hF1
      have HR1 := Lib.hid hR1
      have HO1 := Lib.hid hown'
      have HN1 := Lib.hid hne1
      clear hF1 hR1 hown' hne1 hgrow q0 q1 q2 q3 q4 s0 s1 s2 c2 hca hcb hnx
      go_wp2
      go_roundw
      case rel => exact ⟨k + 1, .slice A' (k + 1 + 1) c', by go_num, by omega, blk_put HF1.out 2 _ rfl, blk_far HR1.out (by simp; omega) _, own_setCell HO1.out HN1.out _, hB1.setCell (by simp; omega) _⟩
      case measure => simp [intOf]; omega
    ·by_cases h4 : f0 = 4
     ·subst h4
      go_wp2_with (at_builtin; refine wpList_append_own _ rfl _ _ 65 rfl (w.heap.size + 1) 85 i0 (.agg #[(.int .i64 0), (.int .i64 0), (.int .i64 0)]) 3 24 Try.underlying65 hi hz0 hz1 hz2 rfl (by decide) _ _ _ rfl (((HO.out.alloc _).alloc _).alloc _) _ 1 1 [.int .i64 (wrap64 (t0 + f1)), .int .i64 (t1), .int .i64 (t2)] rfl rfl ?y1 ?y2 ?y3 ?y4 ?y5 ?y6)
      try (case y1 =>
       have := cells_new ((wr.alloc (.cells #[.int .i64 f0, .int .i64 f1, .int .i64 f2, .int .i64 f3, .int .i64 f4] 43)).alloc (.cells #[.int .i64 (wrap64 (t0 + f1)), .int .i64 (t1), .int .i64 (t2)] 85)) [.int .i64 (wrap64 (t0 + f1)), .int .i64 (t1), .int .i64 (t2)] 85
       simp only [World.size_alloc] at this
       exact this)
      case y2 => simp [Value.oneCell']
      case y3 => unfold maxLen; omega
      case y4 => omega
      case y5 => have := hB.size; simp; omega
      case y6 =>
       intro v' w1 hown' hgrow _
       obtain ⟨A', c', rfl⟩ := own_slice hown'
       have hF1 := blk_grown (blk_alloc (blk_alloc (blk_alloc HF.out _) _) _) hgrow (own_apart HO.out HF.out (by decide))
       have hR1 := blk_grown (blk_alloc (blk_alloc (blk_alloc HRR.out _) _) _) hgrow (own_apart HO.out HRR.out (by decide))
       have hBs := hB.size
       have hB1 : Below w.heap.size w w1 := (((hB.alloc hBs _).alloc (by simp; omega) _).alloc (by simp; omega) _).grown hgrow (by simp; omega) fun j hj => (by have := own_base HO.out j hj; omega)
       have hne1 := own_apart hown' hF1 (by decide)
       have hnx : flat85 (sumsTo l (k + 1)) = flat85 (sumsTo l k) ++ [.int .i64 (wrap64 (t0 + f1)), .int .i64 (t1), .int .i64 (t2)] := by
        refine HNX.out.trans ?_
        simp [sumP]
       rw [← hnx] at hown'
       have c0 := blk_cell hF1 2
       simp only [List.getElem?_toArray, List.getElem?_cons_succ, List.getElem?_cons_zero] at c0
       have z0 := blk_frozen hF1 2
       have HF1 := Lib.hid hF1
       have HR1 := Lib.hid hR1
       have HO1 := Lib.hid hown'
       have HN1 := Lib.hid hne1
       clear hF1 hR1 hown' hne1 hgrow q0 q1 q2 q3 q4 s0 s1 s2 c2 hca hcb hnx
       go_wp2
       go_roundw
       case rel => exact ⟨k + 1, .slice A' (k + 1 + 1) c', by go_num, by omega, blk_put HF1.out 2 _ rfl, blk_far HR1.out (by simp; omega) _, own_setCell HO1.out HN1.out _, hB1.setCell (by simp; omega) _⟩
       case measure => simp [intOf]; omega
     ·have g2 : (f0 == 2) = false := beq_eq_false_iff_ne.2 h2
      have g1 : (f0 == 1) = false := beq_eq_false_iff_ne.2 h1
      have g4 : (f0 == 4) = false := beq_eq_false_iff_ne.2 h4
      go_wp2_with (at_builtin; refine wpList_append_own _ rfl _ _ 65 rfl (w.heap.size + 1) 85 i0 (.agg #[(.int .i64 0), (.int .i64 0), (.int .i64 0)]) 3 24 Try.underlying65 hi hz0 hz1 hz2 rfl (by decide) _ _ _ rfl (((HO.out.alloc _).alloc _).alloc _) _ 1 1 [.int .i64 (t0), .int .i64 (t1), .int .i64 (t2)] rfl rfl ?z1 ?z2 ?z3 ?z4 ?z5 ?z6)
      try (case z1 =>
       have := cells_new ((wr.alloc (.cells #[.int .i64 f0, .int .i64 f1, .int .i64 f2, .int .i64 f3, .int .i64 f4] 43)).alloc (.cells #[.int .i64 (t0), .int .i64 (t1), .int .i64 (t2)] 85)) [.int .i64 (t0), .int .i64 (t1), .int .i64 (t2)] 85
       simp only [World.size_alloc] at this
       exact this)
      case z2 => simp [Value.oneCell']
      case z3 => unfold maxLen; omega
      case z4 => omega
      case z5 => have := hB.size; simp; omega
      case z6 =>
       intro v' w1 hown' hgrow _
       obtain ⟨A', c', rfl⟩ := own_slice hown'
       have hF1 := blk_grown (blk_alloc (blk_alloc (blk_alloc HF.out _) _) _) hgrow (own_apart HO.out HF.out (by decide))
       have hR1 := blk_grown (blk_alloc (blk_alloc (blk_alloc HRR.out _) _) _) hgrow (own_apart HO.out HRR.out (by decide))
       have hBs := hB.size
       have hB1 : Below w.heap.size w w1 := (((hB.alloc hBs _).alloc (by simp; omega) _).alloc (by simp; omega) _).grown hgrow (by simp; omega) fun j hj => (by have := own_base HO.out j hj; omega)
       have hne1 := own_apart hown' hF1 (by decide)
       have hnx : flat85 (sumsTo l (k + 1)) = flat85 (sumsTo l k) ++ [.int .i64 (t0), .int .i64 (t1), .int .i64 (t2)] := by
        refine HNX.out.trans ?_
        simp [sumP, h1, h2, h4]
       rw [← hnx] at hown'
       have c0 := blk_cell hF1 2
       simp only [List.getElem?_toArray, List.getElem?_cons_succ, List.getElem?_cons_zero] at c0
       have z0 := blk_frozen hF1 2
       have HF1 := Lib.hid hF1
       have HR1 := Lib.hid hR1
       have HO1 := Lib.hid hown'
       have HN1 := Lib.hid hne1
       clear hF1 hR1 hown' hne1 hgrow q0 q1 q2 q3 q4 s0 s1 s2 c2 hca hcb hnx
       go_wp2
       go_roundw
       case rel => exact ⟨k + 1, .slice A' (k + 1 + 1) c', by go_num, by omega, blk_put HF1.out 2 _ rfl, blk_far HR1.out (by simp; omega) _, own_setCell HO1.out HN1.out _, hB1.setCell (by simp; omega) _⟩
       case measure => simp [intOf]; omega
  ·obtain rfl : k = n := by omega
   have hlt1 : ¬ (k : Int) < (k : Int) := by omega
   have c0 := blk_cell hF 0
   have c1 := blk_cell hF 1
   have c2 := blk_cell hF 2
   have d0 := blk_cell hR 0
   have d1 := blk_cell hR 1
   have d2 := blk_cell hR 2
   simp only [List.getElem?_toArray, List.getElem?_cons_succ, List.getElem?_cons_zero] at c0 c1 c2 d0 d1 d2
   have f0 := blk_frozen hR 0
   have f1 := blk_frozen hR 1
   have f2 := blk_frozen hR 2
   have HO := Lib.hid hown
   have HR := Lib.hid hR
   obtain ⟨A2, c2', rfl⟩ := own_slice hown
   clear hown hmk hR hF
   go_wp2
   have n0 : some w.heap.size ≠ (Value.slice A2 (k + 1) c2').ownBlock := fun e => by have := own_base HO.out _ e.symm; omega
   have hro := own_setCell (own_setCell (own_setCell HO.out (p := ⟨w.heap.size, 0, none⟩) n0 (.slice A k c)) (p := ⟨w.heap.size, 1, none⟩) n0 (.int .i64 wd)) (p := ⟨w.heap.size, 2, none⟩) n0 (.slice A2 (k + 1) c2')
   have hbb := ((hB.setCell (show w.heap.size ≤ w.heap.size from Nat.le_refl _) (.slice A k c) (p := ⟨w.heap.size, 0, none⟩)).setCell (show w.heap.size ≤ w.heap.size from Nat.le_refl _) (.int .i64 wd) (p := ⟨w.heap.size, 1, none⟩)).setCell (show w.heap.size ≤ w.heap.size from Nat.le_refl _) (.slice A2 (k + 1) c2') (p := ⟨w.heap.size, 2, none⟩)
   have hr2 := blk_set (blk_set (blk_set HR.out 0 (.slice A k c)) 1 (.int .i64 wd)) 2 (.slice A2 (k + 1) c2')
   generalize (((wr.setCell { block := w.heap.size, off := 0 } (Value.slice A k c)).setCell { block := w.heap.size, off := 1 } (Value.int IntKind.i64 wd)).setCell { block := w.heap.size, off := 2 } (Value.slice A2 (k + 1) c2')) = W2 at *
   have z0 := blk_cell hr2 0
   have z1 := blk_cell hr2 1
   have z2 := blk_cell hr2 2
   simp at z0 z1 z2
   refine bodyPost_ret (v := .agg #[.slice A k c, .int .i64 wd, .slice A2 (k + 1) c2']) ?_ rfl ⟨_, rfl, own_weaken hro (by omega), hbb⟩
   simp [results, Try.results43, go_sem, z0, z1, z2]
end Go.Proofs.Ytbddfnmhhmkfkaa.Pr
namespace Go.DP
set_option linter.unusedVariables false
def hd : List Int → Int | [] => -1 | x :: _ => x
section
variable (pl : Int → Bool) (legal : Int → Int → Bool) (cost : Int → Int → Int)
def Row : List Int → Prop | [] => True | t :: r => pl t = true ∧ hd r < t ∧ legal (hd r) t = true ∧ Row r
def tot : List Int → Int | [] => 0 | t :: r => tot r + cost (hd r) t
def earl : List Int → List Int → Prop
 | [], [] => False
 | [], y :: _ => -1 < y
 | x :: _, [] => x < -1
 | x :: a, y :: b => x < y ∨ (x = y ∧ earl a b)
theorem earl_irrefl : ∀ a, ¬ earl a a
 | [] => id
 | x :: a => fun h => h.elim (by omega) fun h => earl_irrefl a h.2
theorem earl_hd {a b : List Int} (h : hd a < hd b) : earl a b := by
 cases a <;> cases b <;> simp only [hd, earl] at * <;> omega
theorem earl_asymm : ∀ a b, earl a b → ¬ earl b a
 | [], [], h, _ => h
 | [], y :: b, h, h' => by simp only [earl] at *; omega
 | x :: a, [], h, h' => by simp only [earl] at *; omega
 | x :: a, y :: b, h, h' => by
  simp only [earl] at *
  rcases h with h | ⟨rfl, h⟩
  ·omega
  ·rcases h' with h' | ⟨_, h'⟩
   ·omega
   ·exact earl_asymm a b h h'
theorem earl_cons {t : Int} {a b : List Int} (h : earl a b) : earl (t :: a) (t :: b) := .inr ⟨rfl, h⟩
def pick (t : Int) : List (List Int × Int) → Option (List Int × Int) → Option (List Int × Int)
 | [], b => b
 | x :: xs, b => pick t xs (if legal (hd x.1) t = true ∧ (∀ y, b = some y → x.2 + cost (hd x.1) t < y.2) then some (t :: x.1, x.2 + cost (hd x.1) t) else b)
theorem pick_spec (t : Int) : ∀ (xs : List (List Int × Int)) (b : Option (List Int × Int)) (seen : List (List Int × Int)),
  (List.Pairwise (fun a c => hd a.1 < hd c.1) (seen ++ xs)) →
  (match b with
   | none => ∀ y ∈ seen, legal (hd y.1) t = false
   | some q => ∃ p, p ∈ seen ∧ legal (hd p.1) t = true ∧ q = (t :: p.1, p.2 + cost (hd p.1) t) ∧ ∀ y ∈ seen, legal (hd y.1) t = true → p.2 + cost (hd p.1) t < y.2 + cost (hd y.1) t ∨ (p.2 + cost (hd p.1) t = y.2 + cost (hd y.1) t ∧ hd p.1 ≤ hd y.1)) →
  (match pick legal cost t xs b with
   | none => ∀ y ∈ seen ++ xs, legal (hd y.1) t = false
   | some q => ∃ p, p ∈ seen ++ xs ∧ legal (hd p.1) t = true ∧ q = (t :: p.1, p.2 + cost (hd p.1) t) ∧ ∀ y ∈ seen ++ xs, legal (hd y.1) t = true → p.2 + cost (hd p.1) t < y.2 + cost (hd y.1) t ∨ (p.2 + cost (hd p.1) t = y.2 + cost (hd y.1) t ∧ hd p.1 ≤ hd y.1))
 | [], b, seen, hp, h => by simpa [pick] using h
 | x :: xs, b, seen, hp, h => by
  have ih := pick_spec t xs (if legal (hd x.1) t = true ∧ (∀ y, b = some y → x.2 + cost (hd x.1) t < y.2) then some (t :: x.1, x.2 + cost (hd x.1) t) else b) (seen ++ [x]) (by simpa using hp)
  simp only [List.append_assoc, List.singleton_append] at ih
  refine ih ?_
  clear ih
  have hlt : ∀ y ∈ seen, hd y.1 < hd x.1 := fun y hy => by
   rw [List.pairwise_append] at hp
   exact hp.2.2 y hy x (by simp)
  by_cases hl : legal (hd x.1) t = true
  ·cases b with
   | none =>
    rw [if_pos ⟨hl, by simp⟩]
    refine ⟨x, by simp, hl, rfl, fun y hy hly => ?_⟩
    rcases List.mem_append.1 hy with hy | hy
    ·have := h y hy; rw [hly] at this; cases this
    ·obtain rfl : y = x := by simpa using hy
     exact .inr ⟨rfl, Int.le_refl _⟩
   | some q =>
    obtain ⟨p, hp1, hp2, rfl, hp3⟩ := h
    by_cases hc : x.2 + cost (hd x.1) t < p.2 + cost (hd p.1) t
    ·rw [if_pos ⟨hl, by rintro y ⟨⟩; exact hc⟩]
     refine ⟨x, by simp, hl, rfl, fun y hy hly => ?_⟩
     rcases List.mem_append.1 hy with hy | hy
     ·have := hp3 y hy hly; omega
     ·obtain rfl : y = x := by simpa using hy
      exact .inr ⟨rfl, Int.le_refl _⟩
    ·rw [if_neg (fun h => hc (h.2 _ rfl))]
     refine ⟨p, by simp [hp1], hp2, rfl, fun y hy hly => ?_⟩
     rcases List.mem_append.1 hy with hy | hy
     ·exact hp3 y hy hly
     ·obtain rfl : y = x := by simpa using hy
      have := hlt p hp1
      omega
  ·rw [if_neg (fun h => hl h.1)]
   cases b with
   | none =>
    intro y hy
    rcases List.mem_append.1 hy with hy | hy
    ·exact h y hy
    ·obtain rfl : y = x := by simpa using hy
     simpa using hl
   | some q =>
    obtain ⟨p, hp1, hp2, rfl, hp3⟩ := h
    refine ⟨p, by simp [hp1], hp2, rfl, fun y hy hly => ?_⟩
    rcases List.mem_append.1 hy with hy | hy
    ·exact hp3 y hy hly
    ·obtain rfl : y = x := by simpa using hy
     exact absurd hly hl
def Best (p : List Int) (s : Int) : Prop :=
 Row pl legal p ∧ s = tot cost p ∧ ∀ x, Row pl legal x → hd x = hd p → x = p ∨ s < tot cost x ∨ (s = tot cost x ∧ earl p x)
structure Inv (done : List Int) (ws : List (List Int × Int)) : Prop where
 ends : ws.map (fun x => hd x.1) = -1 :: done
 best : ∀ x ∈ ws, Best pl legal cost x.1 x.2
 tail : ∀ x ∈ ws, x.1 = [] ∨ ∃ s, (x.1.tail, s) ∈ ws
 sorted : List.Pairwise (· < ·) (-1 :: done)
theorem row_nonneg (h0 : ∀ t, pl t = true → 0 ≤ t) : ∀ {x}, Row pl legal x → hd x = -1 → x = []
 | [], _, _ => rfl
 | t :: r, h, e => by have := h0 t h.1; simp only [hd] at e; omega
theorem inv_start (h0 : ∀ t, pl t = true → 0 ≤ t) : Inv pl legal cost [] [([], 0)] := by
 refine ⟨rfl, ?_, ?_, by simp⟩
 ·intro x hx
  obtain rfl : x = ([], 0) := by simpa using hx
  exact ⟨trivial, rfl, fun y hy he => .inl (row_nonneg pl legal h0 hy he)⟩
 ·intro x hx
  obtain rfl : x = ([], 0) := by simpa using hx
  exact .inl rfl
theorem inv_next (h1 : ∀ t, pl t = true → legal (-1) t = true) {done : List Int} {ws : List (List Int × Int)} (h : Inv pl legal cost done ws) (t : Int)
  (ht : pl t = true) (hpl : ∀ y, pl y = true → y < t → y ∈ done) (hlt : ∀ y ∈ -1 :: done, y < t) :
  ∃ q, pick legal cost t ws none = some q ∧ Inv pl legal cost (done ++ [t]) (ws ++ [q]) ∧ hd q.1 = t := by
 have hsort : List.Pairwise (fun a c : List Int × Int => hd a.1 < hd c.1) ws := by
  have := h.sorted
  rw [← h.ends, List.pairwise_map] at this
  exact this
 have hs := pick_spec legal cost t ws none [] (by simpa using hsort) (by intro y hy; cases hy)
 have hfirst : ∃ x ∈ ws, hd x.1 = -1 := by
  have : (-1 : Int) ∈ ws.map (fun x => hd x.1) := by rw [h.ends]; simp
  simpa using this
 cases hq : pick legal cost t ws none with
 | none =>
  exfalso
  rw [hq] at hs
  obtain ⟨x, hx, he⟩ := hfirst
  have := hs x (by simpa using hx)
  rw [he, h1 t ht] at this
  cases this
 | some q =>
  rw [hq] at hs
  obtain ⟨p, hp, hl, rfl, hmin⟩ := hs
  simp only [List.nil_append] at hp hmin
  refine ⟨_, rfl, ⟨?_, ?_, ?_, ?_⟩, rfl⟩
  ·rw [List.map_append, h.ends]; rfl
  ·intro x hx
   rcases List.mem_append.1 hx with hx | hx
   ·exact h.best x hx
   ·obtain rfl := List.mem_singleton.1 hx
    have hbp := h.best p hp
    have hpt : hd p.1 < t := by
     apply hlt
     have : hd p.1 ∈ ws.map (fun x => hd x.1) := List.mem_map.2 ⟨p, hp, rfl⟩
     rwa [h.ends] at this
    refine ⟨⟨ht, hpt, hl, hbp.1⟩, by simp only [tot]; rw [← hbp.2.1], fun z hz he => ?_⟩
    cases z with
    | nil =>
     simp only [hd] at he
     have := hlt (-1) (by simp)
     omega
    | cons t' r =>
     simp only [hd] at he
     subst he
     have x1 := hz.1
     have x2 := hz.2.1
     have x3 := hz.2.2.1
     have x4 := hz.2.2.2
     have hmem : hd r ∈ -1 :: done := by
      cases r with
      | nil => simp [hd]
      | cons u r => exact List.mem_cons_of_mem _ (hpl u x4.1 x2)
     rw [← h.ends] at hmem
     obtain ⟨y, hy, hye⟩ := List.mem_map.1 hmem
     have hby := h.best y hy
     have hm := hmin y hy (by rw [hye]; exact x3)
     have hr := hby.2.2 r x4 hye.symm
     rw [hye] at hm
     simp only [tot]
     have hle : y.2 ≤ tot cost r := by
      rcases hr with hr | hr | hr
      ·rw [hr, hby.2.1]; exact Int.le_refl _
      ·omega
      ·omega
     rcases hm with hm | ⟨hm, hh⟩
     ·exact .inr (.inl (by omega))
     ·rcases Int.lt_or_eq_of_le hh with hh | hh
      ·by_cases e : y.2 + cost (hd r) t' < tot cost r + cost (hd r) t'
       ·exact .inr (.inl (by omega))
       ·exact .inr (.inr ⟨by omega, .inr ⟨rfl, earl_hd hh⟩⟩)
      ·
       have hyp : y = p := by
        have hinj : ∀ (l : List (List Int × Int)), List.Pairwise (fun a c : List Int × Int => hd a.1 < hd c.1) l → ∀ a ∈ l, ∀ b ∈ l, hd a.1 = hd b.1 → a = b := by
         intro l hl
         induction hl with
         | nil => intro a ha; cases ha
         | cons h1 _ ih =>
          intro a ha b hb e
          rcases List.mem_cons.1 ha with ea | ha' <;> rcases List.mem_cons.1 hb with eb | hb'
          ·rw [ea, eb]
          ·have := h1 b hb'; rw [ea] at e; omega
          ·have := h1 a ha'; rw [eb] at e; omega
          ·exact ih a ha' b hb' e
        exact hinj ws hsort y hy p hp (by omega)
       subst hyp
       rcases hr with hr | hr | ⟨hr, hr2⟩
       ·exact .inl (by rw [hr])
       ·exact .inr (.inl (by omega))
       ·exact .inr (.inr ⟨by omega, earl_cons hr2⟩)
  ·intro x hx
   rcases List.mem_append.1 hx with hx | hx
   ·rcases h.tail x hx with h' | ⟨s, h'⟩
    ·exact .inl h'
    ·exact .inr ⟨s, List.mem_append_left _ h'⟩
   ·obtain rfl := List.mem_singleton.1 hx
    exact .inr ⟨p.2, List.mem_append_left _ hp⟩
  ·have := h.sorted
   rw [show -1 :: (done ++ [t]) = (-1 :: done) ++ [t] from rfl, List.pairwise_append]
   exact ⟨this, by simp, fun a ha b hb => by
    obtain rfl : b = t := by simpa using hb
    exact hlt a ha⟩
def waysL : List Int → List (List Int × Int) → List (List Int × Int)
 | [], ws => ws
 | t :: ts, ws => waysL ts (match pick legal cost t ws none with | some q => ws ++ [q] | none => ws)
theorem waysL_append : ∀ (a b : List Int) (ws : List (List Int × Int)), waysL legal cost (a ++ b) ws = waysL legal cost b (waysL legal cost a ws)
 | [], b, ws => rfl
 | t :: a, b, ws => by simp only [List.cons_append, waysL]; exact waysL_append a b _
theorem inv_step (h0 : ∀ t, pl t = true → 0 ≤ t) (h1 : ∀ t, pl t = true → legal (-1) t = true) {done ts : List Int} {t : Int} {ws : List (List Int × Int)} (h : Inv pl legal cost done ws)
  (hall : ∀ y, pl y = true ↔ y ∈ done ++ t :: ts) (hs : List.Pairwise (· < ·) (done ++ t :: ts)) :
  ∃ q, pick legal cost t ws none = some q ∧ Inv pl legal cost (done ++ [t]) (ws ++ [q]) ∧ hd q.1 = t := by
 have ht : pl t = true := (hall t).2 (by simp)
 rw [List.pairwise_append] at hs
 refine inv_next pl legal cost h1 h t ht (fun y hy hlt => ?_) (fun y hy => ?_)
 ·rcases List.mem_append.1 ((hall y).1 hy) with h' | h'
  ·exact h'
  ·rcases List.mem_cons.1 h' with h' | h'
   ·omega
   ·have := (List.pairwise_cons.1 hs.2.1).1 y h'
    omega
 ·rcases List.mem_cons.1 hy with rfl | hy
  ·have := h0 t ht; omega
  ·exact hs.2.2 y hy t (by simp)
theorem inv_all (h0 : ∀ t, pl t = true → 0 ≤ t) (h1 : ∀ t, pl t = true → legal (-1) t = true) : ∀ (ts done : List Int) (ws : List (List Int × Int)), Inv pl legal cost done ws →
  (∀ y, pl y = true ↔ y ∈ done ++ ts) → List.Pairwise (· < ·) (done ++ ts) → Inv pl legal cost (done ++ ts) (waysL legal cost ts ws)
 | [], done, ws, h, _, _ => by simpa [waysL] using h
 | t :: ts, done, ws, h, hall, hs => by
  obtain ⟨q, hq, hi, _⟩ := inv_step pl legal cost h0 h1 h hall hs
  simp only [waysL, hq]
  have e : done ++ t :: ts = (done ++ [t]) ++ ts := by simp
  rw [e] at hall hs ⊢
  exact inv_all h0 h1 ts (done ++ [t]) (ws ++ [q]) hi hall hs
theorem inv_last {done : List Int} {ws : List (List Int × Int)} (h : Inv pl legal cost done ws) {n : Int} (hn : done.getLast? = some n) :
  ∃ q, ws.getLast? = some q ∧ hd q.1 = n ∧ Best pl legal cost q.1 q.2 := by
 have h1 := congrArg List.getLast? h.ends
 rw [List.getLast?_map, List.getLast?_cons, hn] at h1
 cases hw : ws.getLast? with
 | none => rw [hw] at h1; cases h1
 | some q =>
  rw [hw] at h1
  refine ⟨q, rfl, by simpa using h1, h.best q (List.mem_of_getLast? hw)⟩
def Fw : Int → List Int → Prop | _, [] => True | f, b :: bs => f < b ∧ pl b = true ∧ legal f b = true ∧ Fw b bs
def totF : Int → List Int → Int | _, [] => 0 | f, b :: bs => cost f b + totF b bs
theorem fw_snoc (t : Int) : ∀ (a : List Int) (f : Int), Fw pl legal f (a ++ [t]) ↔ Fw pl legal f a ∧ a.getLast?.getD f < t ∧ pl t = true ∧ legal (a.getLast?.getD f) t = true
 | [], f => by simp [Fw]
 | b :: bs, f => by
  have e : ((b :: bs).getLast?).getD f = (bs.getLast?).getD b := by
   cases bs with
   | nil => rfl
   | cons c cs => simp [List.getLast?_cons]
  rw [e, List.cons_append]
  simp only [Fw, fw_snoc t bs b]
  constructor
  ·rintro ⟨h1, h2, h3, h4, h5⟩; exact ⟨⟨h1, h2, h3, h4⟩, h5⟩
  ·rintro ⟨⟨h1, h2, h3, h4⟩, h5⟩; exact ⟨h1, h2, h3, h4, h5⟩
theorem totF_snoc (t : Int) : ∀ (a : List Int) (f : Int), totF cost f (a ++ [t]) = totF cost f a + cost (a.getLast?.getD f) t
 | [], f => by simp [totF]
 | b :: bs, f => by
  have e : ((b :: bs).getLast?).getD f = (bs.getLast?).getD b := by
   cases bs with
   | nil => rfl
   | cons c cs => simp [List.getLast?_cons]
  rw [e, List.cons_append]
  simp only [totF, totF_snoc t bs b]
  omega
theorem hd_rev (r : List Int) : r.reverse.getLast?.getD (-1) = hd r := by
 cases r with
 | nil => rfl
 | cons x r => simp [hd]
theorem row_fw : ∀ r : List Int, Row pl legal r ↔ Fw pl legal (-1) r.reverse
 | [] => by simp [Row, Fw]
 | t :: r => by
  rw [List.reverse_cons, fw_snoc, hd_rev, ← row_fw r]
  simp only [Row]
  constructor
  ·rintro ⟨h1, h2, h3, h4⟩; exact ⟨h4, h2, h1, h3⟩
  ·rintro ⟨h4, h2, h1, h3⟩; exact ⟨h1, h2, h3, h4⟩
theorem tot_fw : ∀ r : List Int, tot cost r = totF cost (-1) r.reverse
 | [] => rfl
 | t :: r => by
  rw [List.reverse_cons, totF_snoc, hd_rev, ← tot_fw r]
  rfl
end
def bestOf {α : Type} (better : α → α → Bool) : List α → α → α
 | [], b => b
 | x :: xs, b => bestOf better xs (if better x b = true then x else b)
theorem bestOf_is {α : Type} {better : α → α → Bool} {p : α} (h0 : better p p = false) : ∀ (xs : List α) (b : α), (b = p ∨ p ∈ xs) → (∀ x, x = b ∨ x ∈ xs → x ≠ p → better p x = true ∧ better x p = false) → bestOf better xs b = p
 | [], b, h, _ => by
  rcases h with h | h
  ·exact h
  ·cases h
 | x :: xs, b, h, hb => by
  refine bestOf_is h0 xs _ ?_ (fun y hy hne => ?_)
  ·rcases h with rfl | h
   ·left
    by_cases hx : x = b
    ·rw [hx, h0]; rfl
    ·rw [(hb x (.inr (by simp)) hx).2]; rfl
   ·rcases List.mem_cons.1 h with h' | h'
    ·left
     by_cases hx : b = p
     ·by_cases e : better x b = true
      ·rw [if_pos e, h']
      ·rw [if_neg e, hx]
     ·have := (hb b (.inl rfl) hx).1
      rw [← h', this]
      rfl
    ·exact .inr h'
  ·rcases hy with hy | hy
   ·apply hb y _ hne
    subst hy
    by_cases e : better x b = true
    ·rw [if_pos e]; exact .inr (by simp)
    ·rw [if_neg e]; exact .inl rfl
   ·exact hb y (.inr (List.mem_cons_of_mem _ hy)) hne
end Go.DP
namespace Go.Proofs.Ytbddfnmhhmkfkaa.Pr
set_option linter.unusedVariables false
set_option linter.unusedSimpArgs false
open Go.RowKit Go.Proofs.YtbddfnmhhmkfkaaW.PrintWords Go.Proofs.YtbddfnmhhmkfkaaW.PrintLast Go.Proofs.YtbddfnmhhmkfkaaW.PrintMore
theorem w64 {n : Int} (h0 : -9223372036854775808 ≤ n) (h1 : n ≤ 9223372036854775807) : wrap64 n = n := by unfold wrap64; omega
structure OkItem (x : S43) : Prop where
 k1 : 1 ≤ x.f0
 k4 : x.f0 ≤ 4
 w0 : 0 ≤ x.f1
 w1 : x.f1 ≤ 2000
 y0 : 0 ≤ x.f2
 y1 : x.f2 ≤ 2000
 z0 : 0 ≤ x.f3
 z1 : x.f3 ≤ 2000
theorem odd_ok {x : S43} (h : oddP x = false) : OkItem x := by
 simp only [oddP, farP, Bool.or_eq_false_iff, decide_eq_false_iff_not] at h
 obtain ⟨⟨⟨⟨h1, h2⟩, h3, h4⟩, h5, h6⟩, h7, h8⟩ := h
 exact ⟨by omega, by omega, by omega, by omega, by omega, by omega, by omega, by omega⟩
structure OkL (l : List S43) (w : Int) : Prop where
 len : l.length ≤ 16384
 item : ∀ x ∈ l, OkItem x
 w0 : 1 ≤ w
 w1 : w ≤ 1000000
theorem check_01 (l : List S43) (w : Int) : checkP l w = 0 ∨ checkP l w = 1 := by
 unfold checkP; split <;> simp
theorem check_ok {l : List S43} {w : Int} (h : checkP l w = 0) : OkL l w := by
 unfold checkP at h
 split at h
 ·cases h
 ·rename_i h1
  refine ⟨by omega, fun x hx => odd_ok ?_, by omega, by omega⟩
  cases ho : oddP x with
  | false => rfl
  | true => exact absurd (.inr (.inr (.inr (List.any_eq_true.2 ⟨x, hx, ho⟩)))) h1
def gN (x : S43) : Int := if x.f0 = 3 then 0 else x.f1
def gY (x : S43) : Int := if x.f0 = 2 then x.f2 else 0
def gZ (x : S43) : Int := if x.f0 = 2 then x.f3 else 0
def nS (g : S43 → Int) (l : List S43) (k : Nat) : Int := ((l.take k).map g).sum
theorem nS_succ (g : S43 → Int) (l : List S43) (k : Nat) (x : S43) (h : l[k]? = some x) : nS g l (k + 1) = nS g l k + g x := by
 unfold nS
 rw [List.take_add_one, h]
 simp
theorem rd_get {l : List S43} {k : Nat} (h : k < l.length) : l[k]? = some (rd_T43 l k) := by
 unfold rd_T43
 rw [Int.toNat_natCast, List.getD_eq_getElem?_getD, List.getElem?_eq_getElem h]
 rfl
theorem rd_ok {l : List S43} {w : Int} (ok : OkL l w) {k : Nat} (h : k < l.length) : OkItem (rd_T43 l k) := ok.item _ (List.mem_of_getElem? (rd_get h))
theorem nS_next {l : List S43} (g : S43 → Int) {k : Nat} (h : k < l.length) : nS g l (k + 1) = nS g l k + g (rd_T43 l k) := nS_succ g l k _ (rd_get h)
theorem g_bd {x : S43} (h : OkItem x) : (0 ≤ gN x ∧ gN x ≤ 2000) ∧ (0 ≤ gY x ∧ gY x ≤ 2000) ∧ (0 ≤ gZ x ∧ gZ x ≤ 2000) := by
 obtain ⟨a, b, c, d, e, f, g, i⟩ := h
 refine ⟨?_, ?_, ?_⟩
 ·unfold gN; split <;> omega
 ·unfold gY; split <;> omega
 ·unfold gZ; split <;> omega
theorem nS_bd {l : List S43} {w : Int} (ok : OkL l w) (g : S43 → Int) (hg : ∀ x, OkItem x → 0 ≤ g x ∧ g x ≤ 2000) : ∀ k : Nat, k ≤ l.length → 0 ≤ nS g l k ∧ nS g l k ≤ 2000 * k
 | 0, _ => by simp [nS]
 | k + 1, h => by
  have ih := nS_bd ok g hg k (by omega)
  have := hg _ (rd_ok ok (show k < l.length by omega))
  rw [nS_next g (by omega)]
  omega
theorem nS_mono {l : List S43} {w : Int} (ok : OkL l w) (g : S43 → Int) (hg : ∀ x, OkItem x → 0 ≤ g x ∧ g x ≤ 2000) (i : Nat) : ∀ d : Nat, i + d ≤ l.length → nS g l i ≤ nS g l (i + d)
 | 0, _ => Int.le_refl _
 | d + 1, h => by
  have ih := nS_mono ok g hg i d (by omega)
  have := hg _ (rd_ok ok (show i + d < l.length by omega))
  rw [show i + (d + 1) = (i + d) + 1 by omega, nS_next g (by omega)]
  omega
theorem sumAt_ok {l : List S43} {w : Int} (ok : OkL l w) : ∀ k : Nat, k ≤ l.length → sumAt l k = ⟨nS gN l k, nS gY l k, nS gZ l k⟩
 | 0, _ => rfl
 | k + 1, h => by
  have hk : k < l.length := by omega
  have ho := rd_ok ok hk
  obtain ⟨b1, b2, b3⟩ := g_bd ho
  have n1 := nS_bd ok gN (fun x hx => (g_bd hx).1) k (by omega)
  have n2 := nS_bd ok gY (fun x hx => (g_bd hx).2.1) k (by omega)
  have n3 := nS_bd ok gZ (fun x hx => (g_bd hx).2.2) k (by omega)
  have hl := ok.len
  rw [sumAt_succ l k _ (rd_get hk), sumAt_ok ok k (by omega), nS_next gN hk, nS_next gY hk, nS_next gZ hk]
  generalize rd_T43 l k = x at *
  obtain ⟨o1, o2, o3, o4, o5, o6, o7, o8⟩ := ho
  generalize nS gN l k = a1 at *
  generalize nS gY l k = a2 at *
  generalize nS gZ l k = a3 at *
  simp only [sumP, gN, gY, gZ] at *
  by_cases h2 : x.f0 = 2
  ·simp only [h2, if_true] at *
   rw [if_neg (by omega)]
   rw [w64 (by omega) (by omega), w64 (by omega) (by omega), w64 (by omega) (by omega)]
  ·by_cases h3 : x.f0 = 3
   ·simp only [h3, if_true] at *
    simp
   ·rw [if_neg h2, if_pos (by omega), if_neg h3, if_neg h2, if_neg h2, w64 (by omega) (by omega), Int.add_zero, Int.add_zero]
theorem sums_len (l : List S43) (k : Nat) : (sumsTo l k).length = k + 1 := by simp [sumsTo]
theorem rd_sums (l : List S43) (n k : Nat) (h : k ≤ n) : rd_T85 (sumsTo l n) k = sumAt l k := by
 unfold rd_T85 sumsTo
 rw [Int.toNat_natCast, List.getD_eq_getElem?_getD, List.getElem?_map, List.getElem?_range (by omega)]
 rfl
def hyphP (l : List S43) (a : Int) : Bool := decide (0 ≤ a) && decide (a < l.length) && ((rd_T43 l a).f0 == 3)
def placeP (l : List S43) (a : Int) : Bool := decide (a = l.length) || (decide (0 ≤ a) && decide (a < l.length) && (((rd_T43 l a).f0 == 3) || ((rd_T43 l a).f0 == 2)))
def legalP (l : List S43) (a b : Int) : Bool := !hyphP l a || !hyphP l b
theorem hyphen_f (l : List S43) (w : Int) (s : List S85) (a : Int) : best_flow_hyphen.f l w s a = some (hyphP l a) := by
 unfold best_flow_hyphen.f hyphP
 by_cases h1 : 0 ≤ a
 ·by_cases h2 : a < l.length
  ·simp [h1, h2]
  ·simp [h1, h2]
 ·simp [h1]
theorem place_f (l : List S43) (w : Int) (s : List S85) (a : Int) : best_flow_place.f l w s a = some (placeP l a) := by
 unfold best_flow_place.f placeP
 rw [hyphen_f]
 unfold hyphP
 by_cases h0 : a = l.length
 ·simp [h0]
 ·by_cases h1 : 0 ≤ a
  ·by_cases h2 : a < l.length
   ·by_cases h3 : (rd_T43 l a).f0 = 3
    ·simp [h0, h1, h2, h3]
    ·simp [h0, h1, h2, h3]
   ·simp [h0, h1, h2]
  ·simp [h0, h1]
theorem legal_f (l : List S43) (w : Int) (s : List S85) (a b : Int) : best_flow_legal.f l w s a b = some (legalP l a b) := by
 unfold best_flow_legal.f legalP
 rw [hyphen_f, hyphen_f]
 cases hyphP l a <;> cases hyphP l b <;> rfl
theorem refHyphen_f (l : List S43) (a : Int) : r19_Hyphen.f l a = some (hyphP l a) := by
 unfold r19_Hyphen.f hyphP
 by_cases h1 : 0 ≤ a
 ·by_cases h2 : a < l.length
  ·simp [h1, h2]
  ·simp [h1, h2]
 ·simp [h1]
theorem refPlace_f (l : List S43) (a : Int) : r19_Place.f l a = some (placeP l a) := by
 unfold r19_Place.f placeP
 by_cases h0 : a = l.length
 ·simp [h0]
 ·by_cases h1 : 0 ≤ a
  ·by_cases h2 : a < l.length
   ·by_cases h3 : (rd_T43 l a).f0 = 2
    ·simp [h0, h1, h2, h3]
    ·simp [h0, h1, h2, h3]
   ·simp [h0, h1, h2]
  ·simp [h0, h1]
theorem place_le {l : List S43} {a : Int} (h : placeP l a = true) : 0 ≤ a ∧ a ≤ l.length := by
 simp only [placeP, Bool.or_eq_true, Bool.and_eq_true, decide_eq_true_eq] at h
 omega
theorem hyph_len (l : List S43) : hyphP l l.length = false := by simp [hyphP]
theorem hyph_neg (l : List S43) {a : Int} (h : a < 0) : hyphP l a = false := by
 have : ¬ 0 ≤ a := by omega
 simp [hyphP, this]
theorem legal_neg (l : List S43) (b : Int) : legalP l (-1) b = true := by unfold legalP; rw [hyph_neg l (by omega)]; rfl
def lineN (l : List S43) (f t : Int) : Int := nS gN l t.toNat - nS gN l (f + 1).toNat + if hyphP l t = true then (rd_T43 l t).f1 else 0
def lineY (l : List S43) (f t : Int) : Int := nS gY l t.toNat - nS gY l (f + 1).toNat
def lineZ (l : List S43) (f t : Int) : Int := nS gZ l t.toNat - nS gZ l (f + 1).toNat
def quo (a b : Int) : Int := if b = 0 then 1024 else mn (a * 128 / b) 1024
def rateOf (w n y z : Int) (last : Bool) : Int := if n = w ∨ n < w ∧ last = true then 0 else if n < w then quo (w - n) y else quo (n - w) z
def rateP (l : List S43) (w f t : Int) : Int := rateOf w (lineN l f t) (lineY l f t) (lineZ l f t) (t == (l.length : Int))
def overP (l : List S43) (w f t : Int) : Bool := decide (lineN l f t - lineZ l f t > w)
def costOf (r : Int) (h o : Bool) : Int := (10 + mn (100 * r * r * r / 2097152) 10000) * (10 + mn (100 * r * r * r / 2097152) 10000) + (if h = true then 2500 else 0) + if o = true then 1000000000000 else 0
def costP (l : List S43) (w f t : Int) : Int := costOf (rateP l w f t) (hyphP l t) (overP l w f t)
theorem mn_le (a b : Int) : mn a b ≤ a ∧ mn a b ≤ b := by unfold mn; split <;> omega
theorem mn_ge {a b c : Int} (h : c ≤ a) (h' : c ≤ b) : c ≤ mn a b := by unfold mn; split <;> omega
theorem quo_bd {a b : Int} (ha : 0 ≤ a) (hb : 0 ≤ b) : 0 ≤ quo a b ∧ quo a b ≤ 1024 := by
 unfold quo
 split
 ·omega
 ·exact ⟨mn_ge (Int.ediv_nonneg (by omega) hb) (by omega), (mn_le _ _).2⟩
theorem line_bd {l : List S43} {w : Int} (ok : OkL l w) {f t : Int} (h0 : -1 ≤ f) (h1 : f < t) (h2 : t ≤ l.length) :
  (0 ≤ lineN l f t ∧ lineN l f t ≤ 32770000) ∧ (0 ≤ lineY l f t ∧ lineY l f t ≤ 32770000) ∧ (0 ≤ lineZ l f t ∧ lineZ l f t ≤ 32770000) := by
 have hl := ok.len
 obtain ⟨i, hi⟩ : ∃ i : Nat, f + 1 = i := ⟨(f + 1).toNat, by omega⟩
 obtain ⟨d, hd⟩ : ∃ d : Nat, t = ((i + d : Nat) : Int) := ⟨(t - (f + 1)).toNat, by omega⟩
 unfold lineN lineY lineZ
 rw [hi, hd]
 simp only [Int.toNat_natCast]
 have m1 := nS_mono ok gN (fun x hx => (g_bd hx).1) i d (by omega)
 have m2 := nS_mono ok gY (fun x hx => (g_bd hx).2.1) i d (by omega)
 have m3 := nS_mono ok gZ (fun x hx => (g_bd hx).2.2) i d (by omega)
 have n1 := nS_bd ok gN (fun x hx => (g_bd hx).1) (i + d) (by omega)
 have n2 := nS_bd ok gY (fun x hx => (g_bd hx).2.1) (i + d) (by omega)
 have n3 := nS_bd ok gZ (fun x hx => (g_bd hx).2.2) (i + d) (by omega)
 have p1 := nS_bd ok gN (fun x hx => (g_bd hx).1) i (by omega)
 have p2 := nS_bd ok gY (fun x hx => (g_bd hx).2.1) i (by omega)
 have p3 := nS_bd ok gZ (fun x hx => (g_bd hx).2.2) i (by omega)
 refine ⟨?_, by omega, by omega⟩
 split
 ·rename_i hh
  simp only [hyphP, Bool.and_eq_true, decide_eq_true_eq] at hh
  have := rd_ok ok (k := i + d) (by omega)
  have h3 := this.w0
  have h4 := this.w1
  omega
 ·omega
theorem rate_bd {w n y z : Int} (h0 : 0 ≤ y) (h1 : 0 ≤ z) (b : Bool) : 0 ≤ rateOf w n y z b ∧ rateOf w n y z b ≤ 1024 := by
 unfold rateOf
 split
 ·omega
 ·split
  ·exact quo_bd (by omega) h0
  ·exact quo_bd (by omega) h1
theorem rateP_bd {l : List S43} {w : Int} (ok : OkL l w) {f t : Int} (h0 : -1 ≤ f) (h1 : f < t) (h2 : t ≤ l.length) : 0 ≤ rateP l w f t ∧ rateP l w f t ≤ 1024 := by
 obtain ⟨_, b2, b3⟩ := line_bd ok h0 h1 h2
 exact rate_bd b2.1 b3.1 _
theorem cube_bd {r : Int} (h0 : 0 ≤ r) (h1 : r ≤ 1024) : (0 ≤ 100 * r ∧ 100 * r ≤ 102400) ∧ (0 ≤ 100 * r * r ∧ 100 * r * r ≤ 104857600) ∧ (0 ≤ 100 * r * r * r ∧ 100 * r * r * r ≤ 107374182400) := by
 have a1 : 0 ≤ 100 * r ∧ 100 * r ≤ 102400 := by omega
 have a2 : 0 ≤ 100 * r * r := Int.mul_nonneg a1.1 h0
 have a3 : 100 * r * r ≤ 102400 * 1024 := Int.mul_le_mul a1.2 h1 h0 (by omega)
 have a4 : 0 ≤ 100 * r * r * r := Int.mul_nonneg a2 h0
 have a5 : 100 * r * r * r ≤ 102400 * 1024 * 1024 := Int.mul_le_mul a3 h1 h0 (by omega)
 exact ⟨a1, ⟨a2, by omega⟩, ⟨a4, by omega⟩⟩
theorem bad_bd {r : Int} (h0 : 0 ≤ r) (h1 : r ≤ 1024) : 0 ≤ mn (100 * r * r * r / 2097152) 10000 ∧ mn (100 * r * r * r / 2097152) 10000 ≤ 10000 := by
 obtain ⟨_, _, b⟩ := cube_bd h0 h1
 exact ⟨mn_ge (by omega) (by omega), (mn_le _ _).2⟩
theorem sq_bd {b : Int} (h0 : 0 ≤ b) (h1 : b ≤ 10000) : 100 ≤ (10 + b) * (10 + b) ∧ (10 + b) * (10 + b) ≤ 100200100 := by
 have h2 : (10 : Int) * 10 ≤ (10 + b) * (10 + b) := Int.mul_le_mul (by omega) (by omega) (by omega) (by omega)
 have h3 : (10 + b) * (10 + b) ≤ 10010 * 10010 := Int.mul_le_mul (by omega) (by omega) (by omega) (by omega)
 omega
theorem cost_bd {r : Int} (h0 : 0 ≤ r) (h1 : r ≤ 1024) (h o : Bool) : 100 ≤ costOf r h o ∧ costOf r h o ≤ 1000100202600 := by
 obtain ⟨b0, b1⟩ := bad_bd h0 h1
 have := sq_bd b0 b1
 unfold costOf
 split <;> split <;> omega
theorem costP_bd {l : List S43} {w : Int} (ok : OkL l w) {f t : Int} (h0 : -1 ≤ f) (h1 : f < t) (h2 : t ≤ l.length) : 100 ≤ costP l w f t ∧ costP l w f t ≤ 1000100202600 := by
 have := rateP_bd ok h0 h1 h2
 exact cost_bd this.1 this.2 _ _
theorem line_spec {l : List S43} {w : Int} (ok : OkL l w) {f t : Int} (h0 : -1 ≤ f) (h1 : f < t) (h2 : t ≤ l.length) (k : Nat) :
  bfl.f (k + 2) l w (sumsTo l l.length) f t = some (lineN l f t, lineY l f t, lineZ l f t, rateP l w f t, overP l w f t) := by
 have hl := ok.len
 have hw0 := ok.w0
 have hw1 := ok.w1
 obtain ⟨i, hi⟩ : ∃ i : Nat, f + 1 = i := ⟨(f + 1).toNat, by omega⟩
 obtain ⟨j, rfl⟩ : ∃ j : Nat, t = j := ⟨t.toNat, by omega⟩
 have hii : i ≤ j := by omega
 obtain ⟨bN, bY, bZ⟩ := line_bd ok h0 h1 h2
 have n1 := nS_bd ok gN (fun x hx => (g_bd hx).1) j (by omega)
 have n2 := nS_bd ok gY (fun x hx => (g_bd hx).2.1) j (by omega)
 have n3 := nS_bd ok gZ (fun x hx => (g_bd hx).2.2) j (by omega)
 have p1 := nS_bd ok gN (fun x hx => (g_bd hx).1) i (by omega)
 have p2 := nS_bd ok gY (fun x hx => (g_bd hx).2.1) i (by omega)
 have p3 := nS_bd ok gZ (fun x hx => (g_bd hx).2.2) i (by omega)
 have hrate := rateP_bd ok h0 h1 h2
 unfold bfl.f best_sums_less.f
 rw [if_pos (by omega), if_pos (by rw [sums_len]; omega), w64 (n := f + 1) (by omega) (by omega), hi, if_pos (by omega), if_pos (by rw [sums_len]; omega)]
 rw [rd_sums l l.length j (by omega), rd_sums l l.length i (by omega), sumAt_ok ok j (by omega), sumAt_ok ok i (by omega)]
 simp only [Option.bind_some, hyphen_f]
 have tail : ∀ n y z : Int, (0 ≤ n ∧ n ≤ 32770000) → (0 ≤ y ∧ y ≤ 32770000) → (0 ≤ z ∧ z ≤ 32770000) →
   bfl.j0 (k + 2) j l w (sumsTo l l.length) n y z 0 false = some (n, y, z, rateOf w n y z ((j : Int) == (l.length : Int)), decide (n - z > w)) := by
  intro n y z hn hy hz
  simp only [bfl.j0]
  have e1 : wrap64 (w - n) = w - n := w64 (by omega) (by omega)
  have e2 : wrap64 (-(w - n)) = n - w := by rw [w64 (by omega) (by omega)]; omega
  have e3 : wrap64 (n - z) = n - z := w64 (by omega) (by omega)
  have fin : ∀ g r : Int, (0 ≤ g ∧ g ≤ 32770000) → 0 ≤ r → bfl.j1 (k + 1) g r l w (sumsTo l l.length) n y z 0 false = some (n, y, z, (if g = 0 then 0 else quo g r), decide (n - z > w)) := by
   intro g r hg hr
   simp only [bfl.j1]
   rw [e3]
   by_cases h : g = 0
   ·rw [if_pos h, if_pos h]
   ·rw [if_neg h, if_neg h]
    unfold quo
    by_cases h' : r = 0
    ·rw [if_pos h', if_pos h']
    ·rw [if_neg h', if_neg h', w64 (n := g * 128) (by omega) (by omega)]
     have q1 : (g * 128).tdiv r = g * 128 / r := Int.tdiv_eq_ediv_of_nonneg (by omega)
     have q2 : 0 ≤ g * 128 / r := Int.ediv_nonneg (by omega) hr
     have q3 : g * 128 / r ≤ g * 128 := Int.ediv_le_self _ (by omega)
     rw [q1, w64 (by omega) (by omega)]
  rw [e1]
  by_cases c1 : w - n < 0
  ·rw [if_pos c1, e2, fin _ _ (by omega) hz.1]
   unfold rateOf
   rw [if_neg (by omega), if_neg (by omega), if_neg (by omega)]
  ·rw [if_neg c1]
   by_cases c2 : (j : Int) = l.length
   ·rw [if_pos c2, fin _ _ (by omega) hy.1]
    unfold rateOf
    rw [if_pos rfl, if_pos (by simp [c2]; omega)]
   ·rw [if_neg c2, fin _ _ (by omega) hy.1]
    unfold rateOf
    by_cases c3 : w - n = 0
    ·rw [if_pos c3, if_pos (by omega)]
    ·rw [if_neg c3, if_neg (by simp [c2]; omega), if_pos (by omega)]
 have r0 := tail (lineN l f j) (lineY l f j) (lineZ l f j) bN bY bZ
 unfold rateP overP
 rw [← r0]
 have eY : wrap64 (nS gY l j - nS gY l i) = lineY l f j := by
  unfold lineY; rw [hi]; simp only [Int.toNat_natCast]; exact w64 (by omega) (by omega)
 have eZ : wrap64 (nS gZ l j - nS gZ l i) = lineZ l f j := by
  unfold lineZ; rw [hi]; simp only [Int.toNat_natCast]; exact w64 (by omega) (by omega)
 rw [eY, eZ]
 unfold lineN at bN ⊢
 rw [hi] at bN ⊢
 simp only [Int.toNat_natCast] at bN ⊢
 rw [w64 (n := nS gN l j - nS gN l i) (by omega) (by omega)]
 by_cases hh : hyphP l j = true
 ·have hj : (j : Int) < l.length := by
   simp only [hyphP, Bool.and_eq_true, decide_eq_true_eq] at hh
   exact hh.1.2
  rw [if_pos hh] at bN ⊢
  rw [if_pos hh, if_pos hj, w64 (by omega) (by omega)]
 ·rw [if_neg hh] at bN ⊢
  rw [if_neg hh, Int.add_zero]
theorem bad_spec {r : Int} (h0 : 0 ≤ r) (h1 : r ≤ 1024) (h o : Bool) :
  (if h = true then (if o = true then (some (wrap64 ((wrap64 ((wrap64 ((wrap64 (10 + (mn ((wrap64 ((wrap64 ((wrap64 (100 * r)) * r)) * r)) / 2097152) 10000))) * (wrap64 (10 + (mn ((wrap64 ((wrap64 ((wrap64 (100 * r)) * r)) * r)) / 2097152) 10000))))) + 2500)) + 1000000000000))) else (some (wrap64 ((wrap64 ((wrap64 (10 + (mn ((wrap64 ((wrap64 ((wrap64 (100 * r)) * r)) * r)) / 2097152) 10000))) * (wrap64 (10 + (mn ((wrap64 ((wrap64 ((wrap64 (100 * r)) * r)) * r)) / 2097152) 10000))))) + 2500)))) else (if o = true then (some (wrap64 ((wrap64 ((wrap64 (10 + (mn ((wrap64 ((wrap64 ((wrap64 (100 * r)) * r)) * r)) / 2097152) 10000))) * (wrap64 (10 + (mn ((wrap64 ((wrap64 ((wrap64 (100 * r)) * r)) * r)) / 2097152) 10000))))) + 1000000000000))) else (some (wrap64 ((wrap64 (10 + (mn ((wrap64 ((wrap64 ((wrap64 (100 * r)) * r)) * r)) / 2097152) 10000))) * (wrap64 (10 + (mn ((wrap64 ((wrap64 ((wrap64 (100 * r)) * r)) * r)) / 2097152) 10000)))))))) = some (costOf r h o) := by
 obtain ⟨a1, a2, a3⟩ := cube_bd h0 h1
 obtain ⟨b0, b1⟩ := bad_bd h0 h1
 have hs := sq_bd b0 b1
 rw [w64 (n := 100 * r) (by omega) (by omega), w64 (n := 100 * r * r) (by omega) (by omega), w64 (n := 100 * r * r * r) (by omega) (by omega)]
 unfold costOf
 generalize mn (100 * r * r * r / 2097152) 10000 = b at *
 rw [w64 (n := 10 + b) (by omega) (by omega)]
 generalize (10 + b) * (10 + b) = q at *
 rw [w64 (n := q) (by omega) (by omega), w64 (n := q + 2500) (by omega) (by omega), w64 (n := q + 2500 + 1000000000000) (by omega) (by omega), w64 (n := q + 1000000000000) (by omega) (by omega)]
 cases h <;> cases o <;> simp
theorem demerits_spec {l : List S43} {w : Int} (ok : OkL l w) {f t : Int} (h0 : -1 ≤ f) (h1 : f < t) (h2 : t ≤ l.length) (k : Nat) :
  best_flow_demerits.f (k + 2) l w (sumsTo l l.length) f t = some (costP l w f t) := by
 have hr := rateP_bd ok h0 h1 h2
 unfold best_flow_demerits.f
 rw [line_spec ok h0 h1 h2 k, hyphen_f]
 simp only [Option.bind_some]
 exact bad_spec hr.1 hr.2 _ _
def Br (l : List S43) : Int → List Int → Prop := Go.DP.Fw (placeP l) (legalP l)
def TotP (l : List S43) (w : Int) : Int → List Int → Int := Go.DP.totF (costP l w)
def legalB (l : List S43) : Int → List Int → Bool
 | f, [] => f == (l.length : Int)
 | f, b :: bs => decide (f < b) && placeP l b && legalP l f b && legalB l b bs
theorem tot_bd {l : List S43} {w : Int} (ok : OkL l w) : ∀ (bs : List Int) (f : Int), -1 ≤ f → Br l f bs → 100 * bs.length ≤ TotP l w f bs ∧ TotP l w f bs ≤ 1000100202600 * bs.length
 | [], f, _, _ => by simp [TotP, Go.DP.totF]
 | b :: bs, f, h0, h => by
  obtain ⟨h1, h2, h3, h4⟩ := h
  have hp := place_le h2
  have ih := tot_bd ok bs b (by omega) h4
  have hc := costP_bd ok h0 h1 hp.2
  unfold TotP at *
  simp only [Go.DP.totF, List.length_cons]
  omega
theorem rd_drop {bs : List Int} {i : Nat} (h : i < bs.length) : bs.drop i = rd bs i :: bs.drop (i + 1) := by
 rw [List.drop_eq_getElem_cons h]
 congr 1
 unfold rd
 rw [Int.toNat_natCast, List.getD_eq_getElem?_getD, List.getElem?_eq_getElem h]
 rfl
theorem legalP_iff (l : List S43) (a b : Int) : legalP l a b = false ↔ hyphP l a = true ∧ hyphP l b = true := by
 unfold legalP; cases hyphP l a <;> cases hyphP l b <;> simp
def legalL (l : List S43) (bs : List Int) : Bool := decide (0 < bs.length) && legalB l (-1) bs
theorem legalB_iff (l : List S43) : ∀ (bs : List Int) (f : Int), legalB l f bs = true ↔ Br l f bs ∧ bs.getLast?.getD f = l.length
 | [], f => by simp [legalB, Br, Go.DP.Fw]
 | b :: bs, f => by
  have e : ((b :: bs).getLast?).getD f = (bs.getLast?).getD b := by
   cases bs with
   | nil => rfl
   | cons c cs => simp [List.getLast?_cons]
  rw [e]
  simp only [legalB, Bool.and_eq_true, decide_eq_true_eq, legalB_iff l bs b]
  simp only [Br, Go.DP.Fw]
  constructor
  ·rintro ⟨⟨⟨h1, h2⟩, h3⟩, h4, h5⟩; exact ⟨⟨h1, h2, h3, h4⟩, h5⟩
  ·rintro ⟨⟨h1, h2, h3, h4⟩, h5⟩; exact ⟨⟨⟨h1, h2⟩, h3⟩, h4, h5⟩
def ratioP (l : List S43) (w f t : Int) : Int × Int × Int :=
 if checkP l w = 0 ∧ (f = -1 ∨ (f ≠ l.length ∧ placeP l f = true)) ∧ placeP l t = true ∧ f < t then (lineN l f t, rateP l w f t, 0) else (0, 0, 1)
def demeritsP (l : List S43) (w : Int) (bs : List Int) : Int × Int := if checkP l w = 0 ∧ legalL l bs = true then (TotP l w (-1) bs, 0) else (0, 1)
end Go.Proofs.Ytbddfnmhhmkfkaa.Pr
namespace Go.Proofs.Ytbddfnmhhmkfkaa.Pr
open Go.RowKit Go.Proofs.YtbddfnmhhmkfkaaW.PrintWords Go.Proofs.YtbddfnmhhmkfkaaW.PrintLast Go.Proofs.YtbddfnmhhmkfkaaW.PrintMore
attribute [local go_sem] max2_int min2_int max_two min_two max_three min_three max_four min_four
set_option linter.unusedVariables false
set_option linter.unusedSimpArgs false
def slices_Reverse_int_int.l0 : Nat → List Int → Int → Int → Option (List Int)
 | 0, _, _, _ => none
 | k + 1, x0, x2, x3 => if x2 < x3 then (if 0 ≤ x3 then (if x3 < (x0.length : Int) then (if 0 ≤ x2 then (if x2 < (x0.length : Int) then (slices_Reverse_int_int.l0 k ((x0.set (x2 : Int).toNat (rd x0 x3)).set (x3 : Int).toNat (rd x0 x2)) (wrap64 (x2 + 1)) (wrap64 (x3 - 1))) else (none)) else (none)) else (none)) else (none)) else (some x0)
def slices_Reverse_int_int.f (k : Nat) (l0 : List Int) : Option (List Int) := slices_Reverse_int_int.l0 k l0 0 (wrap64 ((l0.length : Int) - 1))
theorem slices_Reverse_int_int.mono_l : ∀ k, (∀ y0 y1 y2, LeO (slices_Reverse_int_int.l0 k y0 y1 y2) (slices_Reverse_int_int.l0 (k + 1) y0 y1 y2))
 | 0 => fun _ _ _ r h => by simp [slices_Reverse_int_int.l0] at h
 | k + 1 => by
  have ih0 := slices_Reverse_int_int.mono_l k
  ·intro y0 y1 y2
   unfold slices_Reverse_int_int.l0
   repeat' first
   | (with_reducible exact ih0 _ _ _)
   | (with_reducible exact LeO.refl _)
   | (with_reducible exact LeO.none _)
   | (with_reducible refine LeO.ite ?_ ?_)
   | (with_reducible refine LeO.bind ?_ (fun _ => ?_))
   | exact ih0 _ _ _
   | exact LeO.none _
   | refine LeO.ite ?_ ?_
   | refine LeO.bind ?_ (fun _ => ?_)
theorem slices_Reverse_int_int.mono : ∀ a0 k, LeO (slices_Reverse_int_int.f k a0) (slices_Reverse_int_int.f (k + 1) a0) := by
 intro a0 k
 have ih0 := slices_Reverse_int_int.mono_l k
 unfold slices_Reverse_int_int.f
 repeat' first
   | (with_reducible exact ih0 _ _ _)
   | (with_reducible exact LeO.refl _)
   | (with_reducible exact LeO.none _)
   | (with_reducible refine LeO.ite ?_ ?_)
   | (with_reducible refine LeO.bind ?_ (fun _ => ?_))
   | exact ih0 _ _ _
   | exact LeO.none _
   | refine LeO.ite ?_ ?_
   | refine LeO.bind ?_ (fun _ => ?_)
def slices_Reverse_int_int.T3 : Bool × List (List Nat × List Nat) := (true, [([], []), ([], []), ([], []), ([], []), ([], []), ([], []), ([4, 5], [4, 5]), ([6], [6]), ([], []), ([], []), ([8, 9], [8, 9]), ([10], [10]), ([0, 1, 0, 1, 4, 5, 6, 7, 11], [0, 1]), ([12, 7, 0, 1, 4, 5, 6, 7, 11], [7, 12]), ([2, 3, 0, 1, 2, 3, 4, 5, 6, 7, 8, 9, 10, 11, 12, 13], [2, 3]), ([14, 11, 13, 0, 1, 2, 3, 4, 5, 6, 7, 8, 9, 10, 11, 12, 13], [11, 14])])
def slices_Reverse_int_int.B3 : List Nat := [0, 0, 0, 0, 0, 0, 48, 112, 0, 0, 768, 1792, 4083, 8179, 16383, 32767]
theorem slices_Reverse_int_int.tab3 : rtab .any (opsOf Try.f47 3) = slices_Reverse_int_int.T3 := by kernel_rfl
theorem slices_Reverse_int_int.bits3 : waitsOk slices_Reverse_int_int.T3.2 slices_Reverse_int_int.B3 = true := by kernel_rfl
set_option maxHeartbeats 8000000 in
set_option maxRecDepth 100000 in
theorem slices_Reverse_int_int.calls (k : Nat) (P0_ : Nat → Prop) (u9000_ : Value) (l0 : List Int) (r : List Int) (w0 w : World) (hB : Below w0.heap.size w0 w) (ho0 : Kd.R (Kd.int .i64) 3 w w0.heap.size P0_ u9000_ l0) (h : slices_Reverse_int_int.f k l0 = some r) :
  Calls Try.prog 47 #[u9000_] w fun e w' => e = .returned (.tuple #[]) ∧ Kd.R (Kd.int .i64) 3 w' w0.heap.size (fun k_ => (P0_ k_ ∨ w.heap.size ≤ k_)) u9000_ r ∧ Below w0.heap.size w0 w' ∧ Kept w w' (fun k_ => P0_ k_) := by
 have HO0 := Aside0.mk (show Kd.R (Kd.int .i64) 3 w w0.heap.size (fun k_ => (P0_ k_ ∨ w.heap.size ≤ k_)) u9000_ l0 from Kd.R_mono ho0 (fun k_ hk => (.inl hk)))
 have HK := Aside0.mk (Kept.refl w (fun k_ => P0_ k_))
 have HW0 := Aside0.mk hB.size
 have HB := Aside0.mk hB
 clear hB
 have H : (slices_Reverse_int_int.l0 k l0 0 (wrap64 ((l0.length : Int) - 1))) = some r := h
 clear h
 have H' := Aside0.mk H
 clear H
 obtain ⟨Ao2, co2, eo2⟩ := Kd.R_slice HO0.out
 subst eo2
 go_enter Try.func47, Try.ntmps47
 go_wp2
 go_loopg [2, 3] k (fun kq v2 v3 w' => ∃ (x0_1 : List Int) (x2_1 : Int) (x3_1 : Int), v2 = .int .i64 x2_1 ∧ v3 = .int .i64 x3_1 ∧ Aside0 (slices_Reverse_int_int.l0 kq x0_1 x2_1 x3_1 = some r) ∧ Aside0 (kq ≤ k) ∧ Aside0 (Kd.R (Kd.int .i64) 3 w' w0.heap.size (fun k_ => (P0_ k_ ∨ w.heap.size ≤ k_)) (.slice Ao2 l0.length co2) x0_1) ∧ Aside0 (Kept w w' (fun k_ => P0_ k_)) ∧ Aside0 (Below w0.heap.size w0 w'))
 case atStart => exact ⟨(l0), (0), (wrap64 ((l0.length : Int) - 1)), (by first | rfl | (simp; done) | (simp [*]; done)), (by first | rfl | (simp; done) | (simp [*]; done)), H', ⟨Nat.le_refl _⟩, ⟨by (with_reducible repeat (first | apply Kd.R_alloc | apply Kd.R_drewN | apply Kd.R_drew)); exact HO0.out⟩, ⟨by repeat (first | (with_reducible first | exact HK.out | apply Kept.alloc | apply Kept.drewN | apply Kept.drew) | exact HK.out)⟩, ⟨by repeat (first | (with_reducible first | exact HB.out | apply below_alloc | apply pw_below_drewN | apply below_drew1) | exact HB.out)⟩⟩
 case round =>
  clear H'
  try clear p2
  obtain ⟨x0_1, x2_1, x3_1, rfl, rfl, HA, HK1, HO_0, HK, HB⟩ := hrel
  have hl0_1 := (Kd.R_reads' HO_0.out).1
  rw [hl0_1] at HO_0
  (try simp only [hl0_1])
  cases gk with
  | zero => exact absurd HA.out (by simp [slices_Reverse_int_int.l0])
  | succ k1 =>
   have H := HA.out
   clear HA
   simp only [slices_Reverse_int_int.l0] at H
   by_cases c3 : x2_1 < x3_1
   ·rw [if_pos c3] at H
    have c3b0 : decide (x2_1 < x3_1) = true := decide_eq_true c3
    clear c3
    by_cases c4 : 0 ≤ x3_1
    ·rw [if_pos c4] at H
     have c4b0 : decide (0 ≤ x3_1) = true := decide_eq_true c4
     clear c4
     by_cases c5 : x3_1 < (x0_1.length : Int)
     ·rw [if_pos c5] at H
      have c5b0 : decide (x3_1 < (x0_1.length : Int)) = true := decide_eq_true c5
      clear c5
      by_cases c6 : 0 ≤ x2_1
      ·rw [if_pos c6] at H
       have c6b0 : decide (0 ≤ x2_1) = true := decide_eq_true c6
       clear c6
       by_cases c7 : x2_1 < (x0_1.length : Int)
       ·rw [if_pos c7] at H
        have c7b0 : decide (x2_1 < (x0_1.length : Int)) = true := decide_eq_true c7
        clear c7
        obtain ⟨y145, hy145⟩ : ∃ y_ : List Int, y_ = (x0_1.set (x2_1 : Int).toNat (rd x0_1 x3_1)) := ⟨_, rfl⟩
        replace H : (slices_Reverse_int_int.l0 k1 (y145.set (x3_1 : Int).toNat (rd x0_1 x2_1)) (wrap64 (x2_1 + 1)) (wrap64 (x3_1 - 1))) = some r := by first | (rw [hy145]; with_reducible exact H) | (have H2_ := (Option.bind_some _ _).symm.trans H; rw [hy145]; with_reducible exact H2_) | (have H2_ := (Option.bind_some _ _).symm.trans H; with_reducible exact H2_) | with_reducible exact H | (rw [hy145]; exact H) | exact H
        have Ny145 := Aside0.mk hy145
        clear hy145
        obtain ⟨y146, hy146⟩ : ∃ y_ : List Int, y_ = (y145.set (x3_1 : Int).toNat (rd x0_1 x2_1)) := ⟨_, rfl⟩
        replace H : (slices_Reverse_int_int.l0 k1 y146 (wrap64 (x2_1 + 1)) (wrap64 (x3_1 - 1))) = some r := by first | (rw [hy146]; with_reducible exact H) | (have H2_ := (Option.bind_some _ _).symm.trans H; rw [hy146]; with_reducible exact H2_) | (have H2_ := (Option.bind_some _ _).symm.trans H; with_reducible exact H2_) | with_reducible exact H | (rw [hy146]; exact H) | exact H
        have Ny146 := Aside0.mk hy146
        clear hy146
        have H' := Aside0.mk H
        clear H
        try go_wp2
        have n0_ := Aside0.mk (Kd.R_drew HO_0.out)
        have n1_ := Aside0.mk (Kept.drew HK.out)
        have n2_ := Aside0.mk (below_drew1 HB.out)
        clear HO_0 HK HB
        have HO_0 := n0_
        have HK := n1_
        have HB := n2_
        clear n0_ n1_ n2_
        have p143 : 0 ≤ (x3_1 : Int) := of_decide_eq_true (by first | (with_reducible assumption) | assumption)
        have q143 : x3_1 < (x0_1.length : Int) := of_decide_eq_true (by first | (with_reducible assumption) | assumption)
        obtain ⟨ad143, e143, hx143_0⟩ := Kd.at_int (Kd.R_reads' HO_0.out).2.2 x3_1 p143 q143
        cases e143
        replace p143 := eq_true p143
        replace q143 := eq_true q143
        have p144 : 0 ≤ (x2_1 : Int) := of_decide_eq_true (by first | (with_reducible assumption) | assumption)
        have q144 : x2_1 < (x0_1.length : Int) := of_decide_eq_true (by first | (with_reducible assumption) | assumption)
        obtain ⟨ad144, e144, hx144_0⟩ := Kd.at_int (Kd.R_reads' HO_0.out).2.2 x2_1 p144 q144
        obtain rfl : ad143 = ad144 := (by injection e144)
        replace p144 := eq_true p144
        replace q144 := eq_true q144
        have p8 : 0 ≤ (x2_1 : Int) := of_decide_eq_true (by first | (with_reducible assumption) | assumption)
        have q8 : (x2_1 : Int) < ((x0_1.length : Int) : Int) := of_decide_eq_true (by first | (with_reducible assumption) | assumption)
        obtain ⟨go8, co8, eo8, gb8, gl8, cl8, HG8⟩ := Kd.R_form HO_0.out (by omega)
        (first | cases eo8 | (injection eo8 with ea_ en_ ec_; (first | subst ea_ | (injection ea_ with ea_; subst ea_)); subst ec_; clear en_))
        have GB8 := Aside0.mk gb8
        have GG8 := Aside0.mk HG8
        clear gb8 gl8 HG8
        have HMgo8 := Aside0.mk (show (P0_ go8 ∨ w.heap.size ≤ go8) from (HO_0.out.1 _ rfl))
        (first | simp only [add_plain] at hx143_0 | skip)
        (first | simp only [add_plain] at hx144_0 | skip)
        obtain ⟨hx8_0, hf8_0⟩ := Kd.R_celln 0 HO_0.out (x2_1 : Int) p8 q8
        replace p8 := eq_true p8
        replace q8 := eq_true q8
        have HP11 := Kd.R_putn HO_0.out (x2_1 : Int) (rd x0_1 x3_1)
        rw [← Ny145.out] at HP11
        have HQ11 := Aside0.mk HP11
        clear HP11
        have p9 : 0 ≤ (x3_1 : Int) := of_decide_eq_true (by first | (with_reducible assumption) | assumption)
        have q9 : (x3_1 : Int) < ((x0_1.length : Int) : Int) := of_decide_eq_true (by first | (with_reducible assumption) | assumption)
        obtain ⟨hx9_0, hf9_0⟩ := Kd.R_celln 0 HQ11.out (x3_1 : Int) p9 q9
        replace p9 := eq_true p9
        replace q9 := eq_true q9
        have HP12 := Kd.R_putn HQ11.out (x3_1 : Int) (rd x0_1 x2_1)
        rw [← Ny146.out] at HP12
        have HQ12 := Aside0.mk HP12
        clear HP12
        refine start_ (n := 16) (S := fun w' => w'.cell? ⟨go8, (x3_1).toNat, none⟩ = some (.int .i64 (rd x0_1 x3_1)) ∧ w'.cell? ⟨go8, (x2_1).toNat, none⟩ = some (.int .i64 (rd x0_1 x2_1))) (ds := [13, 15]) #[false, false, false, false, false, false, false, false, false, false, false, false, false, false, false, false] (by kernel_rfl) rfl rfl ⟨hx143_0, hx144_0⟩ (fun hHeld => ?_); refine with_tabW slices_Reverse_int_int.tab3 slices_Reverse_int_int.bits3 (fun HT_ HW_ => ?_)
        generalize wr.drew = w10 at HO_0 HK HB GG8 HQ11 HQ12 hf8_0 hf9_0 hx143_0 hx144_0 hx8_0 hx9_0 hHeld ⊢
        refine pure_ (i := 0) (N := some 14) (v := ?_) (a' := ?_) #[true, false, false, false, false, false, false, false, false, false, false, false, false, false, false, false] rfl rfl (any_of HT_.out (by kernel_rfl)) (fun _ _ _ h => h) (Or.inl ⟨by rfl, ?_⟩) ?_ ?_
        rotate_left
        ·intro w'
         go_simp
         with_reducible rfl
        rotate_left
        ·simp only [Act.put, List.setIfInBounds_toArray, List.set_cons_zero, List.set_cons_succ, i64_w, i32_w]
         rfl
        refine pure_ (i := 1) (N := some 15) (v := ?_) (a' := ?_) #[true, true, false, false, false, false, false, false, false, false, false, false, false, false, false, false] rfl rfl (any_of HT_.out (by kernel_rfl)) (fun _ _ _ h => h) (Or.inl ⟨by rfl, ?_⟩) ?_ ?_
        rotate_left
        ·intro w'
         go_simp
         with_reducible rfl
        rotate_left
        ·simp only [Act.put, List.setIfInBounds_toArray, List.set_cons_zero, List.set_cons_succ, i64_w, i32_w]
         rfl
        refine pure_ (i := 2) (N := some 16) (v := ?_) (a' := ?_) #[true, true, true, false, false, false, false, false, false, false, false, false, false, false, false, false] rfl rfl (any_of HT_.out (by kernel_rfl)) (fun _ _ _ h => h) (Or.inl ⟨by rfl, ?_⟩) ?_ ?_
        rotate_left
        ·intro w'
         go_simp
         with_reducible rfl
        rotate_left
        ·simp only [Act.put, List.setIfInBounds_toArray, List.set_cons_zero, List.set_cons_succ, i64_w, i32_w]
         rfl
        refine pure_ (i := 3) (N := some 17) (v := ?_) (a' := ?_) #[true, true, true, true, false, false, false, false, false, false, false, false, false, false, false, false] rfl rfl (any_of HT_.out (by kernel_rfl)) (fun _ _ _ h => h) (Or.inl ⟨by rfl, ?_⟩) ?_ ?_
        rotate_left
        ·intro w'
         go_simp
         with_reducible rfl
        rotate_left
        ·simp only [Act.put, List.setIfInBounds_toArray, List.set_cons_zero, List.set_cons_succ, i64_w, i32_w]
         rfl
        refine pure_ (i := 4) (N := some 18) (v := ?_) (a' := ?_) #[true, true, true, true, true, false, false, false, false, false, false, false, false, false, false, false] rfl rfl (any_of HT_.out (by kernel_rfl)) (fun _ _ _ h => h) (Or.inl ⟨by rfl, ?_⟩) ?_ ?_
        rotate_left
        ·intro w'
         go_simp
         with_reducible rfl
        rotate_left
        ·simp only [Act.put, List.setIfInBounds_toArray, List.set_cons_zero, List.set_cons_succ, i64_w, i32_w]
         rfl
        refine pure_ (i := 5) (N := some 19) (v := ?_) (a' := ?_) #[true, true, true, true, true, true, false, false, false, false, false, false, false, false, false, false] rfl rfl (any_of HT_.out (by kernel_rfl)) (fun _ _ _ h => h) (Or.inl ⟨by rfl, ?_⟩) ?_ ?_
        rotate_left
        ·intro w'
         go_simp
         with_reducible rfl
        rotate_left
        ·simp only [Act.put, List.setIfInBounds_toArray, List.set_cons_zero, List.set_cons_succ, i64_w, i32_w]
         rfl
        refine pure_ (i := 6) (N := some 20) (v := ?_) (a' := ?_) #[true, true, true, true, true, true, true, false, false, false, false, false, false, false, false, false] rfl rfl (any_of HT_.out (by kernel_rfl)) (fun _ _ _ h => h) (Or.inl ⟨by rfl, ?_⟩) ?_ ?_
        rotate_left
        ·intro w'
         go_simp
         with_reducible rfl
        rotate_left
        ·simp only [Act.put, List.setIfInBounds_toArray, List.set_cons_zero, List.set_cons_succ, i64_w, i32_w]
         rfl
        refine pure_ (i := 8) (N := some 22) (v := ?_) (a' := ?_) #[true, true, true, true, true, true, true, false, true, false, false, false, false, false, false, false] rfl rfl (any_of HT_.out (by kernel_rfl)) (fun _ _ _ h => h) (Or.inl ⟨by rfl, ?_⟩) ?_ ?_
        rotate_left
        ·intro w'
         go_simp
         with_reducible rfl
        rotate_left
        ·simp only [Act.put, List.setIfInBounds_toArray, List.set_cons_zero, List.set_cons_succ, i64_w, i32_w]
         rfl
        refine pure_ (i := 9) (N := some 23) (v := ?_) (a' := ?_) #[true, true, true, true, true, true, true, false, true, true, false, false, false, false, false, false] rfl rfl (any_of HT_.out (by kernel_rfl)) (fun _ _ _ h => h) (Or.inl ⟨by rfl, ?_⟩) ?_ ?_
        rotate_left
        ·intro w'
         go_simp
         with_reducible rfl
        rotate_left
        ·simp only [Act.put, List.setIfInBounds_toArray, List.set_cons_zero, List.set_cons_succ, i64_w, i32_w]
         rfl
        refine pure_ (i := 10) (N := some 24) (v := ?_) (a' := ?_) #[true, true, true, true, true, true, true, false, true, true, true, false, false, false, false, false] rfl rfl (any_of HT_.out (by kernel_rfl)) (fun _ _ _ h => h) (Or.inl ⟨by rfl, ?_⟩) ?_ ?_
        rotate_left
        ·intro w'
         go_simp
         with_reducible rfl
        rotate_left
        ·simp only [Act.put, List.setIfInBounds_toArray, List.set_cons_zero, List.set_cons_succ, i64_w, i32_w]
         rfl
        refine take_ (i := 7) (N := some 21) (v := ?_) (a' := ?_) #[true, true, true, true, true, true, true, true, true, true, true, false, false, false, false, false] rfl rfl (take_ofW HT_.out HW_.out (by kernel_rfl)) (fun _ _ _ h => h) (Or.inl ⟨by rfl, ?_⟩) hHeld ?_ ?_
        rotate_left
        ·rintro w' ⟨s0, s1⟩
         go_simp
         with_reducible rfl
        rotate_left
        ·simp only [Act.put, List.setIfInBounds_toArray, List.set_cons_zero, List.set_cons_succ, i64_w, i32_w]
         rfl
        refine take_ (i := 11) (N := some 25) (v := ?_) (a' := ?_) #[true, true, true, true, true, true, true, true, true, true, true, true, false, false, false, false] rfl rfl (take_ofW HT_.out HW_.out (by kernel_rfl)) (fun _ _ _ h => h) (Or.inl ⟨by rfl, ?_⟩) hHeld ?_ ?_
        rotate_left
        ·rintro w' ⟨s0, s1⟩
         go_simp
         with_reducible rfl
        rotate_left
        ·simp only [Act.put, List.setIfInBounds_toArray, List.set_cons_zero, List.set_cons_succ, i64_w, i32_w]
         rfl
        refine pure_ (i := 12) (N := some 26) (v := ?_) (a' := ?_) #[true, true, true, true, true, true, true, true, true, true, true, true, true, false, false, false] rfl rfl (any_of HT_.out (by kernel_rfl)) (fun _ _ _ h => h) (Or.inl ⟨by rfl, ?_⟩) ?_ ?_
        rotate_left
        ·intro w'
         go_simp
         with_reducible rfl
        rotate_left
        ·simp only [Act.put, List.setIfInBounds_toArray, List.set_cons_zero, List.set_cons_succ, i64_w, i32_w]
         rfl
        refine last_ (i := 13) (N := none) #[true, true, true, true, true, true, true, true, true, true, true, true, true, true, false, false] rfl rfl (one_of HT_.out (by kernel_rfl)) (by decide) (fun K hK => ?_)
        refine skip_ (w1 := ?_) (by rfl) rfl ?_ ?_
        rotate_left
        ·go_simp
         rfl
        refine hK.out _ _ ?_
        clear hK K
        refine pure_ (i := 14) (N := some 27) (v := ?_) (a' := ?_) #[true, true, true, true, true, true, true, true, true, true, true, true, true, true, true, false] rfl rfl (any_of HT_.out (by kernel_rfl)) (fun _ _ _ h => h) (Or.inl ⟨by rfl, ?_⟩) ?_ ?_
        rotate_left
        ·intro w'
         go_simp
         with_reducible rfl
        rotate_left
        ·simp only [Act.put, List.setIfInBounds_toArray, List.set_cons_zero, List.set_cons_succ, i64_w, i32_w]
         rfl
        refine last_ (i := 15) (N := none) #[true, true, true, true, true, true, true, true, true, true, true, true, true, true, true, true] rfl rfl (one_of HT_.out (by kernel_rfl)) (by decide) (fun K hK => ?_)
        refine skip_ (w1 := ?_) (by rfl) rfl ?_ ?_
        rotate_left
        ·go_simp
         rfl
        refine hK.out _ _ ?_
        clear hK K
        refine done_ (done_of HT_.out (by kernel_rfl)) ?_
        try go_wp2
        (try simp only [← hl0_1])
        go_roundg k1
        case measure => have := HK1.out; omega
        case rel => exact ⟨(y146), (wrap64 (x2_1 + 1)), (wrap64 (x3_1 - 1)), (by first | rfl | (simp; done) | (simp [*]; done)), (by first | rfl | (simp; done) | (simp [*]; done)), H', ⟨by have := HK1.out; omega⟩, ⟨by (try simp only [hl0_1]); (with_reducible repeat (first | apply Kd.R_alloc | apply Kd.R_drewN | apply Kd.R_drew)); exact HQ12.out⟩, ⟨by repeat (first | (with_reducible first | exact HK.out | apply Kept.alloc | apply Kept.drewN | apply Kept.drew | refine Kept.setCell ?_ HMgo8.out _ | refine Kept.setCell ?_ HMgo8.out _) | exact HK.out)⟩, ⟨by repeat (first | (with_reducible first | exact HB.out | apply below_alloc | apply pw_below_drewN | apply below_drew1 | refine below_set ?_ GB8.out | refine below_set ?_ GB8.out) | exact HB.out)⟩⟩
       ·rw [if_neg c7] at H
        exact absurd H (by simp)
      ·rw [if_neg c6] at H
       exact absurd H (by simp)
     ·rw [if_neg c5] at H
      exact absurd H (by simp)
    ·rw [if_neg c4] at H
     exact absurd H (by simp)
   ·rw [if_neg c3] at H
    have c3b0 : decide (x2_1 < x3_1) = false := decide_eq_false c3
    clear c3
    obtain rfl := Option.some.inj H
    go_wp2
    first | go_end0 | ((try simp only [Exit.inBlock, Exit.then]); refine bodyPost_ret (results_none rfl _ _ _) rfl ?_)
    exact ⟨by first | rfl | (simp [errW_none, errW_some] <;> rfl) | (simp [*, errW_none, errW_some] <;> rfl), (by first | exact (by (with_reducible repeat (first | apply Kd.R_alloc | apply Kd.R_drewN | apply Kd.R_drew)); exact HO_0.out) | (simp only [hl0_1]; exact (by (with_reducible repeat (first | apply Kd.R_alloc | apply Kd.R_drewN | apply Kd.R_drew)); exact HO_0.out))), by repeat (first | (with_reducible first | exact HB.out | apply below_alloc | apply pw_below_drewN | apply below_drew1) | exact HB.out), by repeat (first | (with_reducible first | exact HK.out | apply Kept.alloc | apply Kept.drewN | apply Kept.drew) | exact HK.out)⟩
end Go.Proofs.Ytbddfnmhhmkfkaa.Pr
namespace Go.Proofs.Ytbddfnmhhmkfkaa.Pr
set_option linter.unusedVariables false
set_option linter.unusedSimpArgs false
open Go.RowKit Go.Proofs.YtbddfnmhhmkfkaaW.PrintWords Go.Proofs.YtbddfnmhhmkfkaaW.PrintLast Go.Proofs.YtbddfnmhhmkfkaaW.PrintMore
open Go.DP in
def frmP : List Int → Int | [] => 0 | _ :: r => hd r
def placesTo (l : List S43) (k : Nat) : List Int := ((List.range k).map (fun i : Nat => (i : Int))).filter (placeP l)
theorem placesTo_succ (l : List S43) (k : Nat) : placesTo l (k + 1) = placesTo l k ++ if placeP l k = true then [(k : Int)] else [] := by
 unfold placesTo
 rw [List.range_succ, List.map_append, List.filter_append]
 congr 1
 simp [List.filter_cons]
theorem placesTo_split (l : List S43) (k : Nat) : ∀ d : Nat, ∃ suf, placesTo l (k + d) = placesTo l k ++ suf
 | 0 => ⟨[], by simp⟩
 | d + 1 => by
  obtain ⟨s, h⟩ := placesTo_split l k d
  rw [show k + (d + 1) = (k + d) + 1 by omega, placesTo_succ, h]
  exact ⟨_, List.append_assoc _ _ _⟩
def placesP (l : List S43) : List Int := placesTo l (l.length + 1)
theorem places_iff (l : List S43) (y : Int) : placeP l y = true ↔ y ∈ placesP l := by
 unfold placesP placesTo
 rw [List.mem_filter, List.mem_map]
 constructor
 ·intro h
  have := place_le h
  exact ⟨⟨y.toNat, by rw [List.mem_range]; omega, by omega⟩, h⟩
 ·exact fun h => h.2
theorem places_sorted (l : List S43) : ∀ k, List.Pairwise (· < ·) (placesTo l k) := by
 intro k
 unfold placesTo
 refine List.Pairwise.filter _ ?_
 rw [List.pairwise_map]
 exact List.Pairwise.imp (fun h => by omega) List.pairwise_lt_range
theorem places_len (l : List S43) : ∀ k, (placesTo l k).length ≤ k
 | 0 => by simp [placesTo]
 | k + 1 => by
  have := places_len l k
  rw [placesTo_succ, List.length_append]
  split <;> simp <;> omega
theorem place_end (l : List S43) : placeP l l.length = true := by simp [placeP]
theorem places_last (l : List S43) : (placesP l).getLast? = some (l.length : Int) := by
 unfold placesP
 rw [placesTo_succ, if_pos (place_end l)]
 simp
def waysP (l : List S43) (w : Int) (pre : List Int) : List (List Int × Int) := Go.DP.waysL (legalP l) (costP l w) pre [([], 0)]
def rowR (l : List S43) (w : Int) : List Int := match (waysP l w (placesP l)).getLast? with | some q => q.1 | none => []
def ofP (l : List S43) (w : Int) : List Int × Int := if checkP l w = 0 then ((rowR l w).reverse, 0) else ([], checkP l w)
def best_Of.f (l0 : List S43) (a1 : Int) : Option (List Int × Int) := if l0.length ≤ 1000000 then some (ofP l0 a1) else none
abbrev InvP (l : List S43) (w : Int) := Go.DP.Inv (placeP l) (legalP l) (costP l w)
abbrev BestP (l : List S43) (w : Int) := Go.DP.Best (placeP l) (legalP l) (costP l w)
abbrev RowP (l : List S43) := Go.DP.Row (placeP l) (legalP l)
theorem inv_pre (l : List S43) (w : Int) (pre suf : List Int) (h : placesP l = pre ++ suf) : InvP l w pre (waysP l w pre) := by
 have hs := places_sorted l (l.length + 1)
 have : ∀ (pre done suf : List Int) (ws : List (List Int × Int)), placesP l = done ++ (pre ++ suf) → InvP l w done ws → InvP l w (done ++ pre) (Go.DP.waysL (legalP l) (costP l w) pre ws) := by
  intro pre
  induction pre with
  | nil => intro done suf ws _ h; simpa [Go.DP.waysL] using h
  | cons t ts ih =>
   intro done suf ws he h
   obtain ⟨q, hq, hi, _⟩ := Go.DP.inv_step (placeP l) (legalP l) (costP l w) (fun t ht => (place_le ht).1) (fun t _ => legal_neg l t) (t := t) (ts := ts ++ suf) h
    (fun y => by rw [places_iff, he]; simp) (by have := hs; rw [show placesTo l (l.length + 1) = placesP l from rfl, he] at this; simpa using this)
   simp only [Go.DP.waysL, hq]
   have := ih (done ++ [t]) suf (ws ++ [q]) (by rw [he]; simp) hi
   simpa using this
 have := this pre [] suf [([], 0)] (by simpa using h) (Go.DP.inv_start _ _ _ (fun t ht => (place_le ht).1))
 rw [List.nil_append] at this
 exact this
theorem row_len (l : List S43) : ∀ x : List Int, RowP l x → (x.length : Int) ≤ Go.DP.hd x + 1 ∧ -1 ≤ Go.DP.hd x ∧ Go.DP.hd x ≤ l.length
 | [], _ => by simp [Go.DP.hd]
 | t :: r, h => by
  have ih := row_len l r h.2.2.2
  have h2 := h.2.1
  have h1 := place_le h.1
  simp only [Go.DP.hd, List.length_cons]
  omega
theorem row_bd {l : List S43} {w : Int} (ok : OkL l w) {x : List Int} (h : RowP l x) : 0 ≤ Go.DP.tot (costP l w) x ∧ Go.DP.tot (costP l w) x ≤ 1000100202600 * x.length := by
 have h1 := (Go.DP.row_fw (placeP l) (legalP l) x).1 h
 have h2 := tot_bd ok x.reverse (-1) (by omega) h1
 rw [Go.DP.tot_fw]
 unfold TotP at h2
 rw [List.length_reverse] at h2
 omega
theorem pick_snoc {legal : Int → Int → Bool} {cost : Int → Int → Int} (t : Int) : ∀ (xs : List (List Int × Int)) (x : List Int × Int) (b : Option (List Int × Int)),
  Go.DP.pick legal cost t (xs ++ [x]) b = if legal (Go.DP.hd x.1) t = true ∧ (∀ y, Go.DP.pick legal cost t xs b = some y → x.2 + cost (Go.DP.hd x.1) t < y.2) then some (t :: x.1, x.2 + cost (Go.DP.hd x.1) t) else Go.DP.pick legal cost t xs b
 | [], x, b => rfl
 | y :: xs, x, b => by
  simp only [List.cons_append, Go.DP.pick]
  exact pick_snoc t xs x _
def encB : Option (List Int × Int) → Int × Int | none => (-1, 0) | some q => (q.2, frmP q.1)
structure Met (l : List S43) (w : Int) (pre : List Int) (t : Int) : Prop where
 t0 : 0 ≤ t
 t1 : t ≤ l.length
 len : (waysP l w pre).length = pre.length + 1
 few : (waysP l w pre).length ≤ 16386
 at_ : ∀ x ∈ waysP l w pre, -1 ≤ Go.DP.hd x.1 ∧ Go.DP.hd x.1 < t ∧ 0 ≤ x.2 ∧ x.2 ≤ 16387643315803600
 next : ∃ q, Go.DP.pick (legalP l) (costP l w) t (waysP l w pre) none = some q ∧ waysP l w (pre ++ [t]) = waysP l w pre ++ [q] ∧ Go.DP.hd q.1 = t
theorem way_bd {l : List S43} {w : Int} (ok : OkL l w) {x : List Int × Int} (h : BestP l w x.1 x.2) : 0 ≤ x.2 ∧ x.2 ≤ 16387643315803600 := by
 have hl := ok.len
 have h1 := row_bd ok h.1
 have h2 := row_len l x.1 h.1
 have h3 := h.2.1
 omega
theorem met {l : List S43} {w : Int} (ok : OkL l w) (pre : List Int) (t : Int) (suf : List Int) (h : placesP l = pre ++ t :: suf) : Met l w pre t := by
 have hl := ok.len
 have hi := inv_pre l w pre (t :: suf) h
 have ht : placeP l t = true := (places_iff l t).2 (by rw [h]; simp)
 have hp := place_le ht
 have hs := places_sorted l (l.length + 1)
 rw [show placesTo l (l.length + 1) = placesP l from rfl, h] at hs
 have hlen : (waysP l w pre).length = pre.length + 1 := by
  have := congrArg List.length hi.ends
  simpa using this
 have hpl : (placesP l).length ≤ l.length + 1 := places_len l _
 rw [h, List.length_append, List.length_cons] at hpl
 refine ⟨hp.1, hp.2, hlen, by omega, fun x hx => ?_, ?_⟩
 ·have hb := hi.best x hx
  have h1 := row_len l x.1 hb.1
  have h2 := way_bd ok hb
  have h3 : Go.DP.hd x.1 ∈ -1 :: pre := by rw [← hi.ends]; exact List.mem_map.2 ⟨x, hx, rfl⟩
  refine ⟨h1.2.1, ?_, h2⟩
  rcases List.mem_cons.1 h3 with h3 | h3
  ·omega
  ·exact (List.pairwise_append.1 hs).2.2 _ h3 t (by simp)
 ·obtain ⟨q, hq, hi', hh⟩ := Go.DP.inv_step (placeP l) (legalP l) (costP l w) (fun t ht => (place_le ht).1) (fun t _ => legal_neg l t) (ts := suf) hi
    (fun y => by rw [places_iff, h]) hs
  refine ⟨q, hq, ?_, hh⟩
  unfold waysP
  rw [Go.DP.waysL_append]
  simp only [Go.DP.waysL]
  rw [show Go.DP.waysL (legalP l) (costP l w) pre [([], 0)] = waysP l w pre from rfl, hq]
theorem pick_bd {l : List S43} {w : Int} (ok : OkL l w) {pre : List Int} {t : Int} (hm : Met l w pre t) : ∀ (j : Nat) (q : List Int × Int), Go.DP.pick (legalP l) (costP l w) t ((waysP l w pre).take j) none = some q → 0 ≤ q.2
 | 0, q, h => by simp [Go.DP.pick] at h
 | j + 1, q, h => by
  rcases Nat.lt_or_ge j (waysP l w pre).length with hj | hj
  ·rw [List.take_add_one, List.getElem?_eq_getElem hj] at h
   simp only [Option.toList_some] at h
   rw [pick_snoc] at h
   split at h
   ·have hx := hm.at_ _ (List.getElem_mem hj)
    have hc := costP_bd ok hx.1 hx.2.1 hm.t1
    cases h
    dsimp only
    omega
   ·exact pick_bd ok hm j q h
  ·rw [List.take_of_length_le (by omega)] at h
   have := pick_bd ok hm j q (by rw [List.take_of_length_le hj]; exact h)
   exact this
theorem take_at {l : List S43} {w : Int} {pre : List Int} {j : Nat} (hj : j < (waysP l w pre).length) : (waysP l w pre).take (j + 1) = (waysP l w pre).take j ++ [(waysP l w pre).getD j ([], 0)] := by
 rw [List.take_add_one, List.getElem?_eq_getElem hj, List.getD_eq_getElem?_getD, List.getElem?_eq_getElem hj]
 rfl
theorem way_mem {l : List S43} {w : Int} {pre : List Int} {j : Nat} (hj : j < (waysP l w pre).length) : (waysP l w pre).getD j ([], 0) ∈ waysP l w pre := by
 rw [List.getD_eq_getElem?_getD, List.getElem?_eq_getElem hj]
 exact List.getElem_mem hj
theorem best_row {l : List S43} {w : Int} (ok : OkL l w) : ∃ s, (rowR l w, s) ∈ waysP l w (placesP l) ∧ Go.DP.hd (rowR l w) = l.length ∧ BestP l w (rowR l w) s := by
 have hi := inv_pre l w (placesP l) [] (by simp)
 obtain ⟨q, h1, h2, h3⟩ := Go.DP.inv_last (placeP l) (legalP l) (costP l w) hi (places_last l)
 have e : rowR l w = q.1 := by unfold rowR; rw [h1]
 rw [e]
 exact ⟨q.2, List.mem_of_getLast? h1, h2, h3⟩
theorem rev_loop : ∀ (d : Nat) (a b m : List Int), m.length = d → a.length = b.length → (a ++ m ++ b).length ≤ 1000000 →
  Ev (fun k => slices_Reverse_int_int.l0 k (a ++ m ++ b) a.length ((a.length : Int) + m.length - 1)) (a ++ m.reverse ++ b)
 | d, a, b, m, hd, hab, hl => by
  match d, hd with
  | 0, hd =>
   obtain rfl : m = [] := List.eq_nil_of_length_eq_zero hd
   refine Ev.step (f := fun _ => some _) (fun k => ?_) (Ev.now _)
   simp only [slices_Reverse_int_int.l0]
   rw [if_neg (by simp; omega)]
   rfl
  | 1, hd =>
   obtain ⟨x, rfl⟩ := List.length_eq_one_iff.1 hd
   refine Ev.step (f := fun _ => some _) (fun k => ?_) (Ev.now _)
   simp only [slices_Reverse_int_int.l0]
   rw [if_neg (by simp)]
   rfl
  | d + 2, hd =>
   obtain ⟨x, m1, rfl⟩ : ∃ x m1, m = x :: m1 := by
    cases m with
    | nil => simp at hd
    | cons x m => exact ⟨x, m, rfl⟩
   obtain ⟨m2, y, rfl⟩ : ∃ m2 y, m1 = m2 ++ [y] := by
    rcases List.eq_nil_or_concat m1 with h | ⟨m2, y, h⟩
    ·subst h; simp at hd
    ·exact ⟨m2, y, by simpa using h⟩
   have hd2 : m2.length = d := by simpa using hd
   have ih := rev_loop d (a ++ [y]) (x :: b) m2 hd2 (by simp; omega) (by simp at hl ⊢; omega)
   have e1 : (a ++ [y]) ++ m2.reverse ++ (x :: b) = a ++ (x :: (m2 ++ [y])).reverse ++ b := by simp
   rw [e1] at ih
   have hlen : (a ++ (x :: (m2 ++ [y])) ++ b).length = a.length + (d + 2) + b.length := by simp; omega
   rw [hlen] at hl
   have r1 : rd (a ++ (x :: (m2 ++ [y])) ++ b) ((a.length : Int) + ((x :: (m2 ++ [y])).length : Int) - 1) = y := by
    unfold rd
    rw [show ((a.length : Int) + ((x :: (m2 ++ [y])).length : Int) - 1).toNat = a.length + (m2.length + 1) by simp; omega]
    rw [List.getD_eq_getElem?_getD, List.append_assoc, List.getElem?_append_right (by omega)]
    simp
   have r2 : rd (a ++ (x :: (m2 ++ [y])) ++ b) (a.length : Int) = x := by
    unfold rd
    rw [Int.toNat_natCast, List.getD_eq_getElem?_getD, List.append_assoc, List.getElem?_append_right (by omega)]
    simp
   have s1 : ((a ++ (x :: (m2 ++ [y])) ++ b).set a.length y).set (a.length + (m2.length + 1)) x = (a ++ [y]) ++ m2 ++ (x :: b) := by
    rw [List.append_assoc, List.set_append_right _ _ (by omega), List.set_append_right _ _ (by omega)]
    simp
   refine Ev.step (fun k => ?_) ih
   simp only [slices_Reverse_int_int.l0]
   have w1 : wrap64 ((a.length : Int) + 1) = ((a ++ [y]).length : Int) := by rw [w64 (by omega) (by omega)]; simp
   have w2 : wrap64 ((a.length : Int) + ((x :: (m2 ++ [y])).length : Int) - 1 - 1) = ((a ++ [y]).length : Int) + m2.length - 1 := by rw [w64 (by simp; omega) (by simp; omega)]; simp; omega
   have n1 : ((a.length : Int) + ((x :: (m2 ++ [y])).length : Int) - 1).toNat = a.length + (m2.length + 1) := by clear w1 w2; simp; omega
   have c1 : (a.length : Int) < (a.length : Int) + ((x :: (m2 ++ [y])).length : Int) - 1 := by clear w1 w2; simp; omega
   have c2 : (0 : Int) ≤ (a.length : Int) + ((x :: (m2 ++ [y])).length : Int) - 1 := by clear w1 w2; omega
   have c3 : (a.length : Int) + ((x :: (m2 ++ [y])).length : Int) - 1 < ((a ++ (x :: (m2 ++ [y])) ++ b).length : Int) := by clear w1 w2; rw [hlen]; simp; omega
   have c4 : (a.length : Int) < ((a ++ (x :: (m2 ++ [y])) ++ b).length : Int) := by clear w1 w2; rw [hlen]; omega
   rw [if_pos c1, if_pos c2, if_pos c3, if_pos (by clear w1 w2; omega), if_pos c4, r1, r2, w1, w2, n1, Int.toNat_natCast, s1]
theorem reverse_ev (l : List Int) (hl : l.length ≤ 1000000) : Ev (fun k => slices_Reverse_int_int.f k l) l.reverse := by
 have := rev_loop l.length [] [] l rfl rfl (by simpa using hl)
 unfold slices_Reverse_int_int.f
 rw [w64 (by omega) (by omega)]
 simpa using this
end Go.Proofs.Ytbddfnmhhmkfkaa.Pr
namespace Go.Proofs.Ytbddfnmhhmkfkaa.Pr
open Go.RowKit Go.Proofs.YtbddfnmhhmkfkaaW.PrintWords Go.Proofs.YtbddfnmhhmkfkaaW.PrintLast Go.Proofs.YtbddfnmhhmkfkaaW.PrintMore
attribute [local go_sem] max2_int min2_int max_two min_two max_three min_three max_four min_four
set_option linter.unusedVariables false
set_option linter.unusedSimpArgs false
def s19_same.l0 : Nat → List Int → List Int → Int → Option (Bool)
 | 0, _, _, _ => none
 | k + 1, x0, x1, x5 => if x5 < (x0.length : Int) then (if 0 ≤ x5 then (if x5 < (x1.length : Int) then (if (rd x0 x5) = (rd x1 x5) then (s19_same.l0 k x0 x1 (wrap64 (x5 + 1))) else (some false)) else (none)) else (none)) else (some true)
def s19_same.f (k : Nat) (l0 : List Int) (l1 : List Int) : Option (Bool) := if (l0.length : Int) = (l1.length : Int) then (s19_same.l0 k l0 l1 0) else (some false)
theorem s19_same.mono_l : ∀ k, (∀ y0 y1 y2, LeO (s19_same.l0 k y0 y1 y2) (s19_same.l0 (k + 1) y0 y1 y2))
 | 0 => fun _ _ _ r h => by simp [s19_same.l0] at h
 | k + 1 => by
  have ih0 := s19_same.mono_l k
  ·intro y0 y1 y2
   unfold s19_same.l0
   repeat' first
   | (with_reducible exact ih0 _ _ _)
   | (with_reducible exact LeO.refl _)
   | (with_reducible exact LeO.none _)
   | (with_reducible refine LeO.ite ?_ ?_)
   | (with_reducible refine LeO.bind ?_ (fun _ => ?_))
   | exact ih0 _ _ _
   | exact LeO.none _
   | refine LeO.ite ?_ ?_
   | refine LeO.bind ?_ (fun _ => ?_)
theorem s19_same.mono : ∀ a0 a1 k, LeO (s19_same.f k a0 a1) (s19_same.f (k + 1) a0 a1) := by
 intro a0 a1 k
 have ih0 := s19_same.mono_l k
 unfold s19_same.f
 repeat' first
   | (with_reducible exact ih0 _ _ _)
   | (with_reducible exact LeO.refl _)
   | (with_reducible exact LeO.none _)
   | (with_reducible refine LeO.ite ?_ ?_)
   | (with_reducible refine LeO.bind ?_ (fun _ => ?_))
   | exact ih0 _ _ _
   | exact LeO.none _
   | refine LeO.ite ?_ ?_
   | refine LeO.bind ?_ (fun _ => ?_)
set_option maxHeartbeats 8000000 in
set_option maxRecDepth 100000 in
theorem s19_same.calls (k : Nat) (A0 : Option Addr) (c0 : Nat) (l0 : List Int) (A1 : Option Addr) (c1 : Nat) (l1 : List Int) (r : Bool) (w : World) (hr0 : Kd.C (Kd.int .i64) w A0 l0.length l0) (hc0 : l0.length ≤ c0) (hr1 : Kd.C (Kd.int .i64) w A1 l1.length l1) (hc1 : l1.length ≤ c1) (h : s19_same.f k l0 l1 = some r) :
  Calls Try.prog 15 #[.slice A0 l0.length c0, .slice A1 l1.length c1] w fun e w' => e = .returned (.bool r) ∧ Drawn0 w w' := by
 have HR0 := Aside0.mk hr0
 have HC0 := Aside0.mk hc0
 clear hr0 hc0
 have HR1 := Aside0.mk hr1
 have HC1 := Aside0.mk hc1
 clear hr1 hc1
 have H : (if (l0.length : Int) = (l1.length : Int) then (s19_same.l0 k l0 l1 0) else (some false)) = some r := h
 clear h
 by_cases c3 : (l0.length : Int) = (l1.length : Int)
 ·rw [if_pos c3] at H
  have c3b0 : ((l0.length : Int) == (l1.length : Int)) = true := beq_iff_eq.mpr c3
  have c3b1 : ((l0.length : Int) != (l1.length : Int)) = false := bne_eq_false_iff_eq.mpr c3
  have c3b2 : (l0.length == l1.length) = true := by first | simpa using c3 | (simp at c3 ⊢; omega)
  clear c3
  have H' := Aside0.mk H
  clear H
  go_enter Try.func15, Try.ntmps15
  go_wp2
  repeat (go_quiet (fail); try go_wp2)
  go_loopg [5] k (fun kq v5 w' => ∃ (x5_1 : Int), v5 = .int .i64 x5_1 ∧ Aside0 (s19_same.l0 kq l0 l1 x5_1 = some r) ∧ Aside0 (kq ≤ k) ∧ Drawn0 w w')
  case atStart => exact ⟨(0), (by first | rfl | (simp; done) | (simp [*]; done)), H', ⟨Nat.le_refl _⟩, by repeat (first | exact Drawn0.refl _ | apply Drawn0.step)⟩
  case round =>
   clear H'
   try clear c1
   try clear p2
   try clear c3
   try clear c3b0
   try clear c3b1
   try clear c3b2
   obtain ⟨x5_1, rfl, HA, HK1, ⟨m1, rfl⟩⟩ := hrel
   cases gk with
   | zero => exact absurd HA.out (by simp [s19_same.l0])
   | succ k1 =>
    have H := HA.out
    clear HA
    simp only [s19_same.l0] at H
    by_cases c4 : x5_1 < (l0.length : Int)
    ·rw [if_pos c4] at H
     have c4b0 : decide (x5_1 < (l0.length : Int)) = true := decide_eq_true c4
     clear c4
     by_cases c5 : 0 ≤ x5_1
     ·rw [if_pos c5] at H
      have c5b0 : decide (0 ≤ x5_1) = true := decide_eq_true c5
      clear c5
      by_cases c6 : x5_1 < (l1.length : Int)
      ·rw [if_pos c6] at H
       have c6b0 : decide (x5_1 < (l1.length : Int)) = true := decide_eq_true c6
       clear c6
       by_cases c7 : (rd l0 x5_1) = (rd l1 x5_1)
       ·rw [if_pos c7] at H
        have c7b0 : ((rd l0 x5_1) == (rd l1 x5_1)) = true := beq_iff_eq.mpr c7
        have c7b1 : ((rd l0 x5_1) != (rd l1 x5_1)) = false := bne_eq_false_iff_eq.mpr c7
        clear c7
        have H' := Aside0.mk H
        clear H
        have p147 : 0 ≤ (x5_1 : Int) := of_decide_eq_true (by first | (with_reducible assumption) | assumption)
        have q147 : x5_1 < (l0.length : Int) := of_decide_eq_true (by first | (with_reducible assumption) | assumption)
        obtain ⟨ad147, e147, hx147_0⟩ := Kd.at_int HR0.out x5_1 p147 q147
        cases e147
        replace p147 := eq_true p147
        replace q147 := eq_true q147
        have p148 : 0 ≤ (x5_1 : Int) := of_decide_eq_true (by first | (with_reducible assumption) | assumption)
        have q148 : x5_1 < (l1.length : Int) := of_decide_eq_true (by first | (with_reducible assumption) | assumption)
        obtain ⟨ad148, e148, hx148_0⟩ := Kd.at_int HR1.out x5_1 p148 q148
        cases e148
        replace p148 := eq_true p148
        replace q148 := eq_true q148
        go_wp2
        repeat (go_quiet (fail); try go_wp2)
        go_roundg k1
        case measure => have := HK1.out; omega
        case rel => exact ⟨(wrap64 (x5_1 + 1)), (by first | rfl | (simp; done) | (simp [*]; done)), H', ⟨by have := HK1.out; omega⟩, by repeat (first | exact Drawn0.refl _ | apply Drawn0.step)⟩
       ·rw [if_neg c7] at H
        have c7b0 : ((rd l0 x5_1) == (rd l1 x5_1)) = false := beq_eq_false_iff_ne.mpr c7
        have c7b1 : ((rd l0 x5_1) != (rd l1 x5_1)) = true := bne_iff_ne.mpr c7
        obtain rfl := Option.some.inj H
        have p147 : 0 ≤ (x5_1 : Int) := of_decide_eq_true (by first | (with_reducible assumption) | assumption)
        have q147 : x5_1 < (l0.length : Int) := of_decide_eq_true (by first | (with_reducible assumption) | assumption)
        obtain ⟨ad147, e147, hx147_0⟩ := Kd.at_int HR0.out x5_1 p147 q147
        cases e147
        replace p147 := eq_true p147
        replace q147 := eq_true q147
        have p148 : 0 ≤ (x5_1 : Int) := of_decide_eq_true (by first | (with_reducible assumption) | assumption)
        have q148 : x5_1 < (l1.length : Int) := of_decide_eq_true (by first | (with_reducible assumption) | assumption)
        obtain ⟨ad148, e148, hx148_0⟩ := Kd.at_int HR1.out x5_1 p148 q148
        cases e148
        replace p148 := eq_true p148
        replace q148 := eq_true q148
        go_wp2
        repeat (go_quiet (fail); try go_wp2)
        go_ret
        exact ⟨by first | rfl | (simp; done) | (simp [*]; done), by repeat (first | exact Drawn0.refl _ | apply Drawn0.step)⟩
      ·rw [if_neg c6] at H
       exact absurd H (by simp)
     ·rw [if_neg c5] at H
      exact absurd H (by simp)
    ·rw [if_neg c4] at H
     have c4b0 : decide (x5_1 < (l0.length : Int)) = false := decide_eq_false c4
     clear c4
     obtain rfl := Option.some.inj H
     go_wp2
     repeat (go_quiet (fail); try go_wp2)
     go_ret
     exact ⟨by first | rfl | (simp; done) | (simp [*]; done), by repeat (first | exact Drawn0.refl _ | apply Drawn0.step)⟩
 ·rw [if_neg c3] at H
  have c3b0 : ((l0.length : Int) == (l1.length : Int)) = false := beq_eq_false_iff_ne.mpr c3
  have c3b1 : ((l0.length : Int) != (l1.length : Int)) = true := bne_iff_ne.mpr c3
  have c3b2 : (l0.length == l1.length) = false := by first | simpa using c3 | (simp at c3 ⊢; omega)
  obtain rfl := Option.some.inj H
  go_enter Try.func15, Try.ntmps15
  go_wp2
  repeat (go_quiet (fail); try go_wp2)
  go_ret
  exact ⟨by first | rfl | (simp; done) | (simp [*]; done), by repeat (first | exact Drawn0.refl _ | apply Drawn0.step)⟩
def s19_of.l0 : Nat → ByteArray → List (S43) → Int → Option ((List (S43)))
 | 0, _, _, _ => none
 | k + 1, x0, x3, x4 => if x4 < (x0.size : Int) then (if 0 ≤ x4 then (if (bt x0 x4) = 98 then (if x3.length < 3518437208883 then (s19_of.l0 k x0 (x3 ++ [(⟨1, 10, 0, 0, 0⟩ : S43)]) (wrap64 (x4 + 1))) else (none)) else (if (bt x0 x4) = 103 then (if x3.length < 3518437208883 then (s19_of.l0 k x0 (x3 ++ [(⟨2, 10, 5, 5, 0⟩ : S43)]) (wrap64 (x4 + 1))) else (none)) else (if (bt x0 x4) = 104 then (if x3.length < 3518437208883 then (s19_of.l0 k x0 (x3 ++ [(⟨3, 5, 0, 0, 0⟩ : S43)]) (wrap64 (x4 + 1))) else (none)) else (s19_of.l0 k x0 x3 (wrap64 (x4 + 1)))))) else (none)) else (some x3)
def s19_of.f (k : Nat) (a0 : ByteArray) : Option ((List (S43))) := s19_of.l0 k a0 ([] : List (S43)) 0
theorem s19_of.mono_l : ∀ k, (∀ y0 y1 y2, LeO (s19_of.l0 k y0 y1 y2) (s19_of.l0 (k + 1) y0 y1 y2))
 | 0 => fun _ _ _ r h => by simp [s19_of.l0] at h
 | k + 1 => by
  have ih0 := s19_of.mono_l k
  ·intro y0 y1 y2
   unfold s19_of.l0
   repeat' first
   | (with_reducible exact ih0 _ _ _)
   | (with_reducible exact LeO.refl _)
   | (with_reducible exact LeO.none _)
   | (with_reducible refine LeO.ite ?_ ?_)
   | (with_reducible refine LeO.bind ?_ (fun _ => ?_))
   | exact ih0 _ _ _
   | exact LeO.none _
   | refine LeO.ite ?_ ?_
   | refine LeO.bind ?_ (fun _ => ?_)
theorem s19_of.mono : ∀ a0 k, LeO (s19_of.f k a0) (s19_of.f (k + 1) a0) := by
 intro a0 k
 have ih0 := s19_of.mono_l k
 unfold s19_of.f
 repeat' first
   | (with_reducible exact ih0 _ _ _)
   | (with_reducible exact LeO.refl _)
   | (with_reducible exact LeO.none _)
   | (with_reducible refine LeO.ite ?_ ?_)
   | (with_reducible refine LeO.bind ?_ (fun _ => ?_))
   | exact ih0 _ _ _
   | exact LeO.none _
   | refine LeO.ite ?_ ?_
   | refine LeO.bind ?_ (fun _ => ?_)
set_option maxHeartbeats 8000000 in
set_option maxRecDepth 100000 in
theorem s19_of.calls (k : Nat) (a0 : ByteArray) (r : List (S43)) (w : World) (h : s19_of.f k a0 = some r) :
  Calls Try.prog 41 #[.string a0] w fun e w' => ∃ v0_ : Value, e = .returned (v0_) ∧ Kd.R k43 43 w' w.heap.size (fun _ => True) v0_ r ∧ Below w.heap.size w w' := by
 have hu43 := Try.underlying43
 have HB := Aside0.mk (Below.refl w.heap.size w)
 have H : (s19_of.l0 k a0 ([] : List (S43)) 0) = some r := h
 clear h
 have H' := Aside0.mk H
 clear H
 go_enter Try.func41, Try.ntmps41
 go_wp2
 go_loopg [3, 4] k (fun kq v3 v4 w' => ∃ (x3_1 : List (S43)) (x4_1 : Int), v4 = .int .i64 x4_1 ∧ Aside0 (s19_of.l0 kq a0 x3_1 x4_1 = some r) ∧ Aside0 (kq ≤ k) ∧ Aside0 (Kd.R k43 43 w' w.heap.size (fun _ => True) v3 x3_1) ∧ Aside0 (Below w.heap.size w w'))
 case atStart => exact ⟨(([] : List (S43))), (0), (by first | rfl | (simp; done) | (simp [*]; done)), H', ⟨Nat.le_refl _⟩, ⟨by first | exact Kd.R_nil _ _ _ _ _ | exact Kd.N_nil _ _ _ _ _ | exact Kd.V_nil _ _ _ _ _ | exact Kd.Q_nil _ _ _ _ _ | exact Kd.S_nil _ _ _ _ _⟩, ⟨by repeat (first | (with_reducible first | exact HB.out | apply below_alloc | apply pw_below_drewN | apply below_drew1) | exact HB.out)⟩⟩
 case round =>
  clear H'
  obtain ⟨x3_1, x4_1, rfl, HA, HK1, HO_3, HB⟩ := hrel
  cases gk with
  | zero => exact absurd HA.out (by simp [s19_of.l0])
  | succ k1 =>
   have H := HA.out
   clear HA
   simp only [s19_of.l0] at H
   by_cases c2 : x4_1 < (a0.size : Int)
   ·rw [if_pos c2] at H
    have c2b0 : decide (x4_1 < (a0.size : Int)) = true := decide_eq_true c2
    clear c2
    by_cases c3 : 0 ≤ x4_1
    ·rw [if_pos c3] at H
     have c3b0 : decide (0 ≤ x4_1) = true := decide_eq_true c3
     clear c3
     by_cases c5 : (bt a0 x4_1) = 98
     ·rw [if_pos c5] at H
      have c5b0 : ((bt a0 x4_1) == 98) = true := beq_iff_eq.mpr c5
      have c5b1 : ((bt a0 x4_1) != 98) = false := bne_eq_false_iff_eq.mpr c5
      clear c5
      by_cases c6 : x3_1.length < 3518437208883
      ·rw [if_pos c6] at H
       have LMc6 := Aside0.mk c6
       clear c6
       obtain ⟨y123, hy123⟩ : ∃ y_ : List (S43), y_ = (x3_1 ++ [(⟨1, 10, 0, 0, 0⟩ : S43)]) := ⟨_, rfl⟩
       replace H : (s19_of.l0 k1 a0 y123 (wrap64 (x4_1 + 1))) = some r := by first | (rw [hy123]; with_reducible exact H) | (have H2_ := (Option.bind_some _ _).symm.trans H; rw [hy123]; with_reducible exact H2_) | (have H2_ := (Option.bind_some _ _).symm.trans H; with_reducible exact H2_) | with_reducible exact H | (rw [hy123]; exact H) | exact H
       have Ny123 := Aside0.mk hy123
       clear hy123
       have H' := Aside0.mk H
       clear H
       have p4 : 0 ≤ (x4_1 : Int) := of_decide_eq_true (by first | (with_reducible assumption) | assumption)
       have q4 : x4_1 < (a0.size : Int) := of_decide_eq_true (by first | (with_reducible assumption) | assumption)
       have hx4 := bt_at a0 x4_1
       replace p4 := eq_true p4
       replace q4 := eq_true q4
       go_wp2_with (first | ((with_reducible refine gate_builtin (b := .append) (xs := #[.tmp 16, .tmp 18]) rfl ?_); at_builtin; refine Kd.R_append k43 (w0 := w) w.heap.size rfl (.tmp 16) (.tmp 18) 22 43 (.agg #[(.int .i64 0), (.int .i64 0), (.int .i64 0), (.int .i64 0), (.int .i64 0)]) 40 rfl Try.underlying22 info43 rfl (by decide) (by omega) u3 x3_1 (⟨1, 10, 0, 0, 0⟩ : S43) [.int .i64 1, .int .i64 10, .int .i64 0, .int .i64 0, .int .i64 0] (fun _ => True) (fun _ => False) rfl rfl ?aP (fun _ hk => hk.elim) ?aF ?aO ?aB ?aS ?aL ?_; (case aP => exact k43_mkM _ _ _ (⟨1, 10, 0, 0, 0⟩ : S43)); (case aB => exact (by repeat (first | (with_reducible first | exact HB.out | apply below_alloc | apply pw_below_drewN | apply below_drew1) | exact HB.out))); (case aF => exact (fun _ _ => trivial)); (case aO => exact (by (with_reducible repeat (first | apply Kd.R_alloc | apply Kd.R_drewN | apply Kd.R_drew)); exact HO_3.out)); (case aS => exact (below_size (by repeat (first | (with_reducible first | exact HB.out | apply below_alloc | apply pw_below_drewN | apply below_drew1) | exact HB.out)))); (case aL => have := LMc6.out; omega); intro v124 w7 ho hb hg hat; rw [← Ny123.out] at ho; have n0_ := Aside0.mk (hb); have n1_ := Aside0.mk (ho); clear HB; clear HO_3; have HB := n0_; have HO125 := n1_; clear n0_ n1_; clear ho hb hg hat))
       go_roundg k1
       case measure => have := HK1.out; omega
       case rel => exact ⟨(y123), (wrap64 (x4_1 + 1)), (by first | rfl | (simp; done) | (simp [*]; done)), H', ⟨by have := HK1.out; omega⟩, ⟨by (with_reducible repeat (first | apply Kd.R_alloc | apply Kd.R_drewN | apply Kd.R_drew)); exact HO125.out⟩, ⟨by repeat (first | (with_reducible first | exact HB.out | apply below_alloc | apply pw_below_drewN | apply below_drew1) | exact HB.out)⟩⟩
      ·rw [if_neg c6] at H
       exact absurd H (by simp)
     ·rw [if_neg c5] at H
      have c5b0 : ((bt a0 x4_1) == 98) = false := beq_eq_false_iff_ne.mpr c5
      have c5b1 : ((bt a0 x4_1) != 98) = true := bne_iff_ne.mpr c5
      by_cases c8 : (bt a0 x4_1) = 103
      ·rw [if_pos c8] at H
       have c8b0 : ((bt a0 x4_1) == 103) = true := beq_iff_eq.mpr c8
       have c8b1 : ((bt a0 x4_1) != 103) = false := bne_eq_false_iff_eq.mpr c8
       clear c8
       by_cases c9 : x3_1.length < 3518437208883
       ·rw [if_pos c9] at H
        have LMc9 := Aside0.mk c9
        clear c9
        obtain ⟨y126, hy126⟩ : ∃ y_ : List (S43), y_ = (x3_1 ++ [(⟨2, 10, 5, 5, 0⟩ : S43)]) := ⟨_, rfl⟩
        replace H : (s19_of.l0 k1 a0 y126 (wrap64 (x4_1 + 1))) = some r := by first | (rw [hy126]; with_reducible exact H) | (have H2_ := (Option.bind_some _ _).symm.trans H; rw [hy126]; with_reducible exact H2_) | (have H2_ := (Option.bind_some _ _).symm.trans H; with_reducible exact H2_) | with_reducible exact H | (rw [hy126]; exact H) | exact H
        have Ny126 := Aside0.mk hy126
        clear hy126
        have H' := Aside0.mk H
        clear H
        have p4 : 0 ≤ (x4_1 : Int) := of_decide_eq_true (by first | (with_reducible assumption) | assumption)
        have q4 : x4_1 < (a0.size : Int) := of_decide_eq_true (by first | (with_reducible assumption) | assumption)
        have hx4 := bt_at a0 x4_1
        replace p4 := eq_true p4
        replace q4 := eq_true q4
        go_wp2_with (first | ((with_reducible refine gate_builtin (b := .append) (xs := #[.tmp 22, .tmp 24]) rfl ?_); at_builtin; refine Kd.R_append k43 (w0 := w) w.heap.size rfl (.tmp 22) (.tmp 24) 22 43 (.agg #[(.int .i64 0), (.int .i64 0), (.int .i64 0), (.int .i64 0), (.int .i64 0)]) 40 rfl Try.underlying22 info43 rfl (by decide) (by omega) u3 x3_1 (⟨2, 10, 5, 5, 0⟩ : S43) [.int .i64 2, .int .i64 10, .int .i64 5, .int .i64 5, .int .i64 0] (fun _ => True) (fun _ => False) rfl rfl ?aP (fun _ hk => hk.elim) ?aF ?aO ?aB ?aS ?aL ?_; (case aP => exact k43_mkM _ _ _ (⟨2, 10, 5, 5, 0⟩ : S43)); (case aB => exact (by repeat (first | (with_reducible first | exact HB.out | apply below_alloc | apply pw_below_drewN | apply below_drew1) | exact HB.out))); (case aF => exact (fun _ _ => trivial)); (case aO => exact (by (with_reducible repeat (first | apply Kd.R_alloc | apply Kd.R_drewN | apply Kd.R_drew)); exact HO_3.out)); (case aS => exact (below_size (by repeat (first | (with_reducible first | exact HB.out | apply below_alloc | apply pw_below_drewN | apply below_drew1) | exact HB.out)))); (case aL => have := LMc9.out; omega); intro v127 w10 ho hb hg hat; rw [← Ny126.out] at ho; have n0_ := Aside0.mk (hb); have n1_ := Aside0.mk (ho); clear HB; clear HO_3; have HB := n0_; have HO128 := n1_; clear n0_ n1_; clear ho hb hg hat))
        go_roundg k1
        case measure => have := HK1.out; omega
        case rel => exact ⟨(y126), (wrap64 (x4_1 + 1)), (by first | rfl | (simp; done) | (simp [*]; done)), H', ⟨by have := HK1.out; omega⟩, ⟨by (with_reducible repeat (first | apply Kd.R_alloc | apply Kd.R_drewN | apply Kd.R_drew)); exact HO128.out⟩, ⟨by repeat (first | (with_reducible first | exact HB.out | apply below_alloc | apply pw_below_drewN | apply below_drew1) | exact HB.out)⟩⟩
       ·rw [if_neg c9] at H
        exact absurd H (by simp)
      ·rw [if_neg c8] at H
       have c8b0 : ((bt a0 x4_1) == 103) = false := beq_eq_false_iff_ne.mpr c8
       have c8b1 : ((bt a0 x4_1) != 103) = true := bne_iff_ne.mpr c8
       by_cases c11 : (bt a0 x4_1) = 104
       ·rw [if_pos c11] at H
        have c11b0 : ((bt a0 x4_1) == 104) = true := beq_iff_eq.mpr c11
        have c11b1 : ((bt a0 x4_1) != 104) = false := bne_eq_false_iff_eq.mpr c11
        clear c11
        by_cases c12 : x3_1.length < 3518437208883
        ·rw [if_pos c12] at H
         have LMc12 := Aside0.mk c12
         clear c12
         obtain ⟨y129, hy129⟩ : ∃ y_ : List (S43), y_ = (x3_1 ++ [(⟨3, 5, 0, 0, 0⟩ : S43)]) := ⟨_, rfl⟩
         replace H : (s19_of.l0 k1 a0 y129 (wrap64 (x4_1 + 1))) = some r := by first | (rw [hy129]; with_reducible exact H) | (have H2_ := (Option.bind_some _ _).symm.trans H; rw [hy129]; with_reducible exact H2_) | (have H2_ := (Option.bind_some _ _).symm.trans H; with_reducible exact H2_) | with_reducible exact H | (rw [hy129]; exact H) | exact H
         have Ny129 := Aside0.mk hy129
         clear hy129
         have H' := Aside0.mk H
         clear H
         have p4 : 0 ≤ (x4_1 : Int) := of_decide_eq_true (by first | (with_reducible assumption) | assumption)
         have q4 : x4_1 < (a0.size : Int) := of_decide_eq_true (by first | (with_reducible assumption) | assumption)
         have hx4 := bt_at a0 x4_1
         replace p4 := eq_true p4
         replace q4 := eq_true q4
         go_wp2_with (first | ((with_reducible refine gate_builtin (b := .append) (xs := #[.tmp 28, .tmp 30]) rfl ?_); at_builtin; refine Kd.R_append k43 (w0 := w) w.heap.size rfl (.tmp 28) (.tmp 30) 22 43 (.agg #[(.int .i64 0), (.int .i64 0), (.int .i64 0), (.int .i64 0), (.int .i64 0)]) 40 rfl Try.underlying22 info43 rfl (by decide) (by omega) u3 x3_1 (⟨3, 5, 0, 0, 0⟩ : S43) [.int .i64 3, .int .i64 5, .int .i64 0, .int .i64 0, .int .i64 0] (fun _ => True) (fun _ => False) rfl rfl ?aP (fun _ hk => hk.elim) ?aF ?aO ?aB ?aS ?aL ?_; (case aP => exact k43_mkM _ _ _ (⟨3, 5, 0, 0, 0⟩ : S43)); (case aB => exact (by repeat (first | (with_reducible first | exact HB.out | apply below_alloc | apply pw_below_drewN | apply below_drew1) | exact HB.out))); (case aF => exact (fun _ _ => trivial)); (case aO => exact (by (with_reducible repeat (first | apply Kd.R_alloc | apply Kd.R_drewN | apply Kd.R_drew)); exact HO_3.out)); (case aS => exact (below_size (by repeat (first | (with_reducible first | exact HB.out | apply below_alloc | apply pw_below_drewN | apply below_drew1) | exact HB.out)))); (case aL => have := LMc12.out; omega); intro v130 w13 ho hb hg hat; rw [← Ny129.out] at ho; have n0_ := Aside0.mk (hb); have n1_ := Aside0.mk (ho); clear HB; clear HO_3; have HB := n0_; have HO131 := n1_; clear n0_ n1_; clear ho hb hg hat))
         go_roundg k1
         case measure => have := HK1.out; omega
         case rel => exact ⟨(y129), (wrap64 (x4_1 + 1)), (by first | rfl | (simp; done) | (simp [*]; done)), H', ⟨by have := HK1.out; omega⟩, ⟨by (with_reducible repeat (first | apply Kd.R_alloc | apply Kd.R_drewN | apply Kd.R_drew)); exact HO131.out⟩, ⟨by repeat (first | (with_reducible first | exact HB.out | apply below_alloc | apply pw_below_drewN | apply below_drew1) | exact HB.out)⟩⟩
        ·rw [if_neg c12] at H
         exact absurd H (by simp)
       ·rw [if_neg c11] at H
        have c11b0 : ((bt a0 x4_1) == 104) = false := beq_eq_false_iff_ne.mpr c11
        have c11b1 : ((bt a0 x4_1) != 104) = true := bne_iff_ne.mpr c11
        have H' := Aside0.mk H
        clear H
        have p4 : 0 ≤ (x4_1 : Int) := of_decide_eq_true (by first | (with_reducible assumption) | assumption)
        have q4 : x4_1 < (a0.size : Int) := of_decide_eq_true (by first | (with_reducible assumption) | assumption)
        have hx4 := bt_at a0 x4_1
        replace p4 := eq_true p4
        replace q4 := eq_true q4
        go_wp2
        go_roundg k1
        case measure => have := HK1.out; omega
        case rel => exact ⟨(x3_1), (wrap64 (x4_1 + 1)), (by first | rfl | (simp; done) | (simp [*]; done)), H', ⟨by have := HK1.out; omega⟩, ⟨by (with_reducible repeat (first | apply Kd.R_alloc | apply Kd.R_drewN | apply Kd.R_drew)); exact HO_3.out⟩, ⟨by repeat (first | (with_reducible first | exact HB.out | apply below_alloc | apply pw_below_drewN | apply below_drew1) | exact HB.out)⟩⟩
    ·rw [if_neg c3] at H
     exact absurd H (by simp)
   ·rw [if_neg c2] at H
    have c2b0 : decide (x4_1 < (a0.size : Int)) = false := decide_eq_false c2
    clear c2
    obtain rfl := Option.some.inj H
    go_wp2
    go_ret
    exact ⟨_, by first | rfl | (simp [errW_none, errW_some] <;> rfl) | (simp [*, errW_none, errW_some] <;> rfl), by (with_reducible repeat (first | apply Kd.R_alloc | apply Kd.R_drewN | apply Kd.R_drew)); exact HO_3.out, by repeat (first | (with_reducible first | exact HB.out | apply below_alloc | apply pw_below_drewN | apply below_drew1) | exact HB.out)⟩
end Go.Proofs.Ytbddfnmhhmkfkaa.Pr
namespace Go.Next
open Go Go.RowKit
set_option linter.unusedVariables false
variable {F : Fence} {n : Nat} {P : Program} {α : Type}
def Hands (F : Fence) (n : Nat) (P : Program) (g : Nat) (lb : Array Value) (encs : α → Array Value) (Kp : World → World → Prop) (xs : List α) (w : World) : Prop :=
 ∀ (l : Nat) (J : List α → World → Prop) (W : World), Below w.heap.size w W → AbidesFrom W.heap.size J →
  (∀ pre x suf W1, xs = pre ++ x :: suf → J pre W1 → YieldAt F (n - 1) P l (encs x) W1 fun e W' => e = .returned (.bool true) ∧ J (pre ++ [x]) W' ∧ Kp W1 W') →
  J [] W → CallsIn F n P g (#[.func (.yield l) #[] #[]] ++ lb) W fun e W' => (∃ v, e = .returned v) ∧ J xs W'
def Ends (B : Nat) (Kp : World → World → Prop) (I : List α → World → Prop) (xs : List α) (W : World) : Exit → Act → World → Prop := fun e _ W' => e = .normal ∧ KeepsFrom B W W' ∧ Kp W W' ∧ I xs W'
def recOf (fn : FuncId) (t : Array Value) (ps : Array Tmp) (assign body : Code) (D : Nat) (st : LoopState) : Loop := { state := st, pending := none, fn, tmps := t, params := ps, assign, body, defers := D }
theorem range_next {g : Operand} {ps : Array Tmp} {assign body : Code} {Q : Exit → Act → World → Prop} {a : Act} {w : World}
  (hro : F.round = none) (h1 : 1 ≤ n) {gf : Nat} {lb : Array Value} (hg : a.eval g = .func (.func gf) #[] lb) (hFg : F.fn gf) (eg : ∀ args w, (callFunc gf args).run P w = .ok (.enter gf args) w)
  {encs : α → Array Value} {Kp : World → World → Prop} {xs : List α} {w0 : World} (hseq : Hands F (n - 1) P gf lb encs Kp xs w0)
  (hKt : ∀ {A B C : World}, Kp A B → Kp B C → Kp A C) (hKb : ∀ (W : World) (l : Nat) (o o' : Obj), w.heap.size ≤ l → W.heap[l]? = some o → o.isCells = false → o.isWalk = false → Kp W (W.putObj l o')) (hb0 : Below w0.heap.size w0 w) (hps : ∀ x, (encs x).size = ps.size)
  (I : List α → World → Prop) (hI : OwnFrom w.heap.size I) (h0 : I [] w) (a₁ : α → Act)
  (hassign : ∀ (l : Nat) (x : α) (W : World) (K : Act → World → Prop), K (a₁ x) W →
   assign.wpIn (F.inRound l) (n - 1 - 1) P (Exit.then K (fun _ _ _ => False)) { tmps := (ps.zip (encs x)).foldl (fun t (p, v) => t.setIfInBounds p v) a.tmps, defers := [] } W)
  (hbody : ∀ (l : Nat) (pre : List α) (x : α) (suf : List α) (W : World), xs = pre ++ x :: suf → I pre W → body.wpIn (F.inRound l) (n - 1 - 1) P (Ends w.heap.size Kp I (pre ++ [x]) W) (a₁ x) W)
  (hdone : ∀ (D : Nat) (W : World), w.heap.size ≤ D → I xs W → W.heap[D]? = some (.deferred (some [])) → Q .normal { a with defers := { target := .collected D, args := #[] } :: a.defers } W) :
  (Code.rangeFunc g ps assign body).wpIn F n P Q a w := by
 refine wpIn_rangeFunc fun fn hfn => ?_
 rw [hro]
 generalize hWd : (w.alloc (.deferred (some []))).alloc (.loop (recOf fn a.tmps ps assign body w.heap.size .ready)) = Wd
 have hs1 : Wd.heap.size = w.heap.size + 2 := by rw [← hWd]; simp
 have hLoop : Wd.heap[w.heap.size + 1]? = some (.loop (recOf fn a.tmps ps assign body w.heap.size .ready)) := by
  rw [← hWd]
  have := World.alloc_heap_new (w.alloc (.deferred (some []))) (.loop (recOf fn a.tmps ps assign body w.heap.size .ready))
  rwa [World.size_alloc] at this
 have hDef : Wd.heap[w.heap.size]? = some (.deferred (some [])) := by
  rw [← hWd]
  exact (Below.heap_alloc _ _ _ (by simp)).trans (World.alloc_heap_new w _)
 have hIWd : I [] Wd := by rw [← hWd]; exact hI.alloc _ (hI.alloc _ h0)
 have hBWd : Below w0.heap.size w0 Wd := by
  rw [← hWd]
  exact (hb0.alloc hb0.size _).alloc (by have := hb0.size; simp; omega) _
 refine ⟨w.heap.size + 1, [{ target := .collected w.heap.size, args := #[] }], Wd, { target := .fn (.func gf) lb, args := #[.func (.yield (w.heap.size + 1)) #[] #[]] }, Wd, gf,
  #[.func (.yield (w.heap.size + 1)) #[] #[]] ++ lb, Wd, ?_, ?_, ?_, ?_, fun _ => h1, ?_⟩
 ·rw [← hWd]; exact run_enterLoop_outer _ _ _ _ _
 ·simp only [resolve, hg]
  simp [go_sem]
 ·intro f' hf'
  simp [Target.leads] at hf'
  subst hf'
  exact hFg
 ·simp [invoke, go_sem, eg]
 let J : List α → World → Prop := fun pre W => I pre W ∧ W.heap[w.heap.size + 1]? = some (.loop (recOf fn a.tmps ps assign body w.heap.size .ready)) ∧ W.heap[w.heap.size]? = some (.deferred (some []))
 have hJ : AbidesFrom Wd.heap.size J := by
  intro s A B row hs hgr hr
  refine ⟨hI s A B row hs.1 hgr (fun r e => ?_), (grownBy_keeps hgr (fun r e => (hr r e).2) hs.2.1 rfl).trans hs.2.1, (grownBy_keeps hgr (fun r e => (hr r e).2) hs.2.2 rfl).trans hs.2.2⟩
  obtain ⟨hlt, o, ho, hw⟩ := hr r e
  exact ⟨by omega, o, ho, Obj.not_cells_of_walk hw⟩
 refine (hseq (w.heap.size + 1) J Wd hBWd hJ ?_ ⟨hIWd, hLoop, hDef⟩).mono ?_
 ·
  rintro pre x suf W hxs ⟨hi, hl, hk⟩
  have hy := run_yield (P := P) (args := encs x) hl (hps x)
  refine ⟨fn, _, assign, body, hy, roundIn_of_wpIn hfn (hassign _ x W _ ?_)⟩
  refine ⟨_, run_beginRound hl rfl, ?_⟩
  have hlt : w.heap.size + 1 < W.heap.size := (Array.getElem?_eq_some_iff.1 hl).1
  generalize hWb : W.putObj (w.heap.size + 1) (.loop { recOf fn a.tmps ps assign body w.heap.size .ready with state := .busy }) = Wb
  have hlb : Wb.heap[w.heap.size + 1]? = some (.loop (recOf fn a.tmps ps assign body w.heap.size .busy)) := by rw [← hWb]; exact World.putObj_heap_same hlt
  have hkb : Wb.heap[w.heap.size]? = some (.deferred (some [])) := by rw [← hWb]; exact (World.putObj_heap_other (by omega)).trans hk
  have hib : I pre Wb := by rw [← hWb]; exact hI.putObj _ hi (by omega) hl rfl
  have hpb : Kp W Wb := by rw [← hWb]; exact hKb _ _ _ _ (by omega) hl rfl rfl
  refine wpIn_mono (hbody _ pre x suf Wb hxs hib) ?_
  rintro e a3 W3 ⟨rfl, hkf, hkp, hi3⟩
  have hl3 := hkf.same _ _ (by omega) hlb rfl
  have hk3 := hkf.same _ _ (Nat.le_refl _) hkb rfl
  have hend := run_endRound (P := P) none hl3
  refine ⟨_, _, hend, rfl, ⟨hI.putObj _ hi3 (by omega) hl3 rfl, World.putObj_heap_same (Array.getElem?_eq_some_iff.1 hl3).1, (World.putObj_heap_other (by omega)).trans hk3⟩, ?_⟩
  exact hKt hpb (hKt hkp (hKb _ _ _ _ (by omega) hl3 rfl rfl))
 ·
  rintro e W2 ⟨⟨v, rfl⟩, hi, hl, hk⟩
  exact ⟨none, _, run_endLoop (P := P) hl (by simp [recOf]), hdone _ _ (Nat.le_refl _) (hI.putObj _ hi (by omega) hl rfl) ((World.putObj_heap_other (by omega)).trans hk)⟩
end Go.Next
namespace Go.Proofs.Ytbddfnmhhmkfkaa.Pr
set_option linter.unusedVariables false
set_option linter.unusedSimpArgs false
open Go.RowKit Go.Proofs.YtbddfnmhhmkfkaaW.PrintWords
attribute [local go_sem] Oper.semAt_some
theorem flat85_at (xs : List S85) : ∀ (j : Nat) (p : S85), xs[j]? = some p → ((flat85 xs).drop (j * 3)).take 3 = [.int .i64 p.f0, .int .i64 p.f1, .int .i64 p.f2] := by
 induction xs with
 | nil => intro j p h; simp at h
 | cons x xs ih =>
  intro j p h
  cases j with
  | zero => simp at h; subst h; simp [flat85]
  | succ j =>
   have := ih j p (by simpa using h)
   rw [Nat.succ_mul]
   simp only [flat85, List.flatMap_cons] at this ⊢
   rw [show ∀ l : List Value, (([.int .i64 x.f0, .int .i64 x.f1, .int .i64 x.f2] : List Value) ++ l).drop (j * 3 + 3) = l.drop (j * 3) from fun l => rfl]
   exact this
theorem own_R85 {w : World} {base : Nat} {v : Value} {xs : List S85} (h : w.ownsRow base 85 3 v xs.length (flat85 xs)) (b' : Nat) (hb : b' ≤ base) : Kd.R k85 85 w b' (fun _ => True) v xs := by
 refine Kd.R_lower (base := base) ⟨fun _ _ => trivial, flat85 xs, h, flat85_length xs, fun j p hp => ?_⟩ hb
 have := flat85_at xs j p hp
 show k85.M _ _ _ _ (((flat85 xs).drop (j * 3)).take 3)
 rw [this]
 exact k85_mkM _ _ _ _
theorem begin_flow (A : Option Addr) (c : Nat) (l : List S43) (wd : Int) (w : World) (hl : l.length ≤ 1000000) (hA : Kd.C k43 w A l.length l) :
  Calls Try.prog 43 #[.slice A l.length c, .int .i64 wd] w fun e w' => ∃ A2 c2, e = .returned (.agg #[.slice A l.length c, .int .i64 wd, .slice A2 (sumsTo l l.length).length c2]) ∧
   Kd.C k85 w' A2 (sumsTo l l.length).length (sumsTo l l.length) ∧ (sumsTo l l.length).length ≤ c2 ∧ Below w.heap.size w w' := by
 refine (begin_calls A c l wd w hl hA).mono ?_
 rintro e w' ⟨v, rfl, ho, hb⟩
 have e1 := sums_len l l.length
 rw [← e1] at ho
 obtain ⟨A2, c2, rfl⟩ := own_slice ho
 have hr := Kd.R_reads' (own_R85 ho _ (Nat.le_refl _))
 exact ⟨A2, c2, rfl, hr.2.2, hr.2.1, hb⟩
theorem flow_cells {w : World} {g : Nat} {A : Option Addr} {n c : Nat} {wd : Int} {v : Value} (h : w.heap[g]? = some (.cells #[.slice A n c, .int .i64 wd, v] 67 (0, 0))) :
  w.cell? ⟨g, 0, none⟩ = some (.slice A n c) ∧ w.cell? ⟨g, 1, none⟩ = some (.int .i64 wd) ∧ w.cell? ⟨g, 2, none⟩ = some v :=
 ⟨by rw [blk_cell h 0]; rfl, by rw [blk_cell h 1]; rfl, by rw [blk_cell h 2]; rfl⟩
def best_Ratio.f (l0 : List S43) (a1 a2 a3 : Int) : Option (Int × Int × Int) := if l0.length ≤ 1000000 then some (ratioP l0 a1 a2 a3) else none
set_option maxRecDepth 100000 in
set_option maxHeartbeats 4000000 in
theorem best_Ratio.calls (A0 : Option Addr) (c0 : Nat) (l0 : List S43) (a1 a2 a3 r1 r2 r3 : Int) (w : World) (hr0 : Kd.C k43 w A0 l0.length l0) (hc0 : l0.length ≤ c0) (h : best_Ratio.f l0 a1 a2 a3 = some (r1, r2, r3)) :
  Calls Try.prog 19 #[.slice A0 l0.length c0, .int .i64 a1, .int .i64 a2, .int .i64 a3] w fun e w' => e = .returned (.tuple #[.int .i64 r1, .int .i64 r2, .int .i64 r3]) ∧ Below w.heap.size w w' := by
 unfold best_Ratio.f at h
 have hl : l0.length ≤ 1000000 := by
  by_cases hl : l0.length ≤ 1000000
  ·exact hl
  ·rw [if_neg hl] at h; cases h
 rw [if_pos hl] at h
 replace h := Option.some.inj h
 have hb := begin_flow A0 c0 l0 a1 w hl hr0
 have HB := Lib.hid hb
 have hck := fun W (hW : Below w.heap.size w W) => best_Check.calls A0 c0 l0 a1 _ W (Kd.C_below hr0 hW) hc0 rfl
 have HCK := Lib.hid hck
 obtain ⟨S, hS⟩ : ∃ S, sumsTo l0 l0.length = S := ⟨_, rfl⟩
 have hpl := fun a A2 c2 W (hc2 : S.length ≤ c2) (hW : Below w.heap.size w W) (hs : Kd.C k85 W A2 S.length S) => best_flow_place.calls A0 c0 l0 a1 A2 c2 S a _ W (Kd.C_below hr0 hW) hc0 hs hc2 (place_f l0 a1 S a)
 have hp2 := hpl a2
 have hp3 := hpl a3
 rw [hS] at HB
 obtain ⟨b2, e2⟩ : ∃ b, placeP l0 a2 = b := ⟨_, rfl⟩
 obtain ⟨b3, e3⟩ : ∃ b, placeP l0 a3 = b := ⟨_, rfl⟩
 rw [e2] at hp2
 rw [e3] at hp3
 have HP2 := Lib.hid hp2
 have HP3 := Lib.hid hp3
 have HR := Lib.hid hr0
 have HC0 := Lib.hid hc0
 have H := Lib.hid h
 have HS := Lib.hid hS
 have E2 := Lib.hid e2
 have E3 := Lib.hid e3
 have hnl : (l0.length : Int) ≤ 1000000 := by omega
 clear hb hr0 hc0 h hck hpl hp2 hp3 hS e2 e3
 rcases check_01 l0 a1 with hk | hk
 ·rw [hk] at HCK
  have HK := Lib.hid hk
  clear hk
  by_cases h1 : a2 = -1
  ·subst h1
   cases b3
   ·obtain ⟨rfl, rfl, rfl⟩ : r1 = 0 ∧ r2 = 0 ∧ r3 = 1 := by
     have := H.out
     unfold ratioP at this
     rw [if_neg (by rw [E3.out]; rintro ⟨_, _, h, _⟩; cases h)] at this
     simp only [Prod.mk.injEq] at this
     omega
    clear H
    go_enter Try.func19, Try.ntmps19
    go_wp2_with fail
    refine HB.out.mono ?_
    rintro _ w1 ⟨A2, c2, rfl, hs, hc2, hb1⟩
    have hB2 : Below w.heap.size w (w1.alloc (.cells #[.slice A0 l0.length c0, .int .i64 a1, .slice A2 S.length c2] 67)) := below_alloc hb1 _
    have hX2 := blk_new w1 (.cells #[.slice A0 l0.length c0, .int .i64 a1, .slice A2 S.length c2] 67)
    have hS2 := Kd.C_alloc hs (.cells #[.slice A0 l0.length c0, .int .i64 a1, .slice A2 S.length c2] 67)
    go_wp2_with fail
    refine (HCK.out _ hB2).mono ?_
    rintro _ w2 ⟨rfl, hb⟩
    replace hX2 := blk_below hX2 hb
    replace hS2 := Kd.C_below hS2 hb
    replace hB2 := below_step hB2 hb
    clear hs hb hb1
    obtain ⟨x0, x1, x2⟩ := flow_cells hX2
    have HX2 := Lib.hid hX2
    clear hX2
    go_wp2_with fail
    refine (HP3.out A2 c2 _ hc2 hB2 hS2).mono ?_
    rintro _ w3 ⟨rfl, hb⟩
    clear x0 x1 x2
    have hX2 := blk_below HX2.out hb
    replace hS2 := Kd.C_below hS2 hb
    replace hB2 := below_step hB2 hb
    clear hb HX2
    go_wp2
    go_ret3
    exact ⟨rfl, hB2⟩
   ·by_cases h2 : a3 ≤ -1
    ·obtain ⟨rfl, rfl, rfl⟩ : r1 = 0 ∧ r2 = 0 ∧ r3 = 1 := by
      have := H.out
      unfold ratioP at this
      rw [if_neg (by rintro ⟨_, _, _, h⟩; omega)] at this
      simp only [Prod.mk.injEq] at this
      omega
     clear H
     go_enter Try.func19, Try.ntmps19
     go_wp2_with fail
     refine HB.out.mono ?_
     rintro _ w1 ⟨A2, c2, rfl, hs, hc2, hb1⟩
     have hB2 : Below w.heap.size w (w1.alloc (.cells #[.slice A0 l0.length c0, .int .i64 a1, .slice A2 S.length c2] 67)) := below_alloc hb1 _
     have hX2 := blk_new w1 (.cells #[.slice A0 l0.length c0, .int .i64 a1, .slice A2 S.length c2] 67)
     have hS2 := Kd.C_alloc hs (.cells #[.slice A0 l0.length c0, .int .i64 a1, .slice A2 S.length c2] 67)
     go_wp2_with fail
     refine (HCK.out _ hB2).mono ?_
     rintro _ w2 ⟨rfl, hb⟩
     replace hX2 := blk_below hX2 hb
     replace hS2 := Kd.C_below hS2 hb
     replace hB2 := below_step hB2 hb
     clear hs hb hb1
     obtain ⟨x0, x1, x2⟩ := flow_cells hX2
     have HX2 := Lib.hid hX2
     clear hX2
     go_wp2_with fail
     refine (HP3.out A2 c2 _ hc2 hB2 hS2).mono ?_
     rintro _ w3 ⟨rfl, hb⟩
     clear x0 x1 x2
     have hX2 := blk_below HX2.out hb
     replace hS2 := Kd.C_below hS2 hb
     replace hB2 := below_step hB2 hb
     clear hb HX2
     go_wp2
     go_ret3
     exact ⟨rfl, hB2⟩
    ·have hk := HK.out
     have ok := check_ok hk
     have hp3 := place_le E3.out
     have hf1 : -1 ≤ -1 := by omega
     have HL := Lib.hid (line_spec ok hf1 (show -1 < a3 by omega) hp3.2 0)
     have hr := H.out
     unfold ratioP at hr
     rw [if_pos ⟨hk, .inl rfl, E3.out, by omega⟩] at hr
     simp only [Prod.mk.injEq] at hr
     obtain ⟨rfl, rfl, rfl⟩ := hr
     rw [HS.out] at HL
     have hf2 : -1 < a3 := by omega
     clear hk ok hp3 H hf1
     generalize lineN l0 (-1) a3 = n at *
     generalize lineY l0 (-1) a3 = y at *
     generalize lineZ l0 (-1) a3 = z at *
     generalize rateP l0 a1 (-1) a3 = r at *
     generalize overP l0 a1 (-1) a3 = o at *
     go_enter Try.func19, Try.ntmps19
     go_wp2_with fail
     refine HB.out.mono ?_
     rintro _ w1 ⟨A2, c2, rfl, hs, hc2, hb1⟩
     have hB2 : Below w.heap.size w (w1.alloc (.cells #[.slice A0 l0.length c0, .int .i64 a1, .slice A2 S.length c2] 67)) := below_alloc hb1 _
     have hX2 := blk_new w1 (.cells #[.slice A0 l0.length c0, .int .i64 a1, .slice A2 S.length c2] 67)
     have hS2 := Kd.C_alloc hs (.cells #[.slice A0 l0.length c0, .int .i64 a1, .slice A2 S.length c2] 67)
     go_wp2_with fail
     refine (HCK.out _ hB2).mono ?_
     rintro _ w2 ⟨rfl, hb⟩
     replace hX2 := blk_below hX2 hb
     replace hS2 := Kd.C_below hS2 hb
     replace hB2 := below_step hB2 hb
     clear hs hb hb1
     obtain ⟨x0, x1, x2⟩ := flow_cells hX2
     have HX2 := Lib.hid hX2
     clear hX2
     go_wp2_with fail
     refine (HP3.out A2 c2 _ hc2 hB2 hS2).mono ?_
     rintro _ w3 ⟨rfl, hb⟩
     clear x0 x1 x2
     have hX2 := blk_below HX2.out hb
     replace hS2 := Kd.C_below hS2 hb
     replace hB2 := below_step hB2 hb
     clear hb HX2
     obtain ⟨x0, x1, x2⟩ := flow_cells hX2
     have HX2 := Lib.hid hX2
     clear hX2
     go_wp2_with fail
     refine (bfl.calls 2 A0 c0 l0 a1 A2 c2 S (-1) a3 _ _ _ _ _ _ (Kd.C_below HR.out hB2) HC0.out hS2 hc2 HL.out).mono ?_
     rintro _ w3 ⟨rfl, hb⟩
     clear x0 x1 x2
     replace hB2 := below_step hB2 hb
     have hb4 := below_alloc hB2 (.cells #[.int .i64 n, .int .i64 y, .int .i64 z, .int .i64 r, .bool o] 87)
     go_wp2
     go_quiet (fail)
     go_wp2
     go_ret3
     refine ⟨?_, by apply pw_below_drewN; exact hb4⟩
     first | rfl | (simp; done)
  ·have g1 : (a2 == -1) = false := beq_eq_false_iff_ne.2 h1
   have g2 : (a2 != -1) = true := bne_iff_ne.2 h1
   by_cases h3 : a2 = l0.length
   ·obtain ⟨rfl, rfl, rfl⟩ : r1 = 0 ∧ r2 = 0 ∧ r3 = 1 := by
     have := H.out
     unfold ratioP at this
     rw [if_neg (by rintro ⟨_, h | h, _⟩; exact h1 h; exact h.1 h3)] at this
     simp only [Prod.mk.injEq] at this
     omega
    clear H
    have g3 : (a2 == (l0.length : Int)) = true := beq_iff_eq.2 h3
    clear h1 h3
    go_enter Try.func19, Try.ntmps19
    go_wp2_with fail
    refine HB.out.mono ?_
    rintro _ w1 ⟨A2, c2, rfl, hs, hc2, hb1⟩
    have hB2 : Below w.heap.size w (w1.alloc (.cells #[.slice A0 l0.length c0, .int .i64 a1, .slice A2 S.length c2] 67)) := below_alloc hb1 _
    have hX2 := blk_new w1 (.cells #[.slice A0 l0.length c0, .int .i64 a1, .slice A2 S.length c2] 67)
    have hS2 := Kd.C_alloc hs (.cells #[.slice A0 l0.length c0, .int .i64 a1, .slice A2 S.length c2] 67)
    go_wp2_with fail
    refine (HCK.out _ hB2).mono ?_
    rintro _ w2 ⟨rfl, hb⟩
    replace hX2 := blk_below hX2 hb
    replace hS2 := Kd.C_below hS2 hb
    replace hB2 := below_step hB2 hb
    clear hs hb hb1
    go_wp2
    go_ret3
    exact ⟨rfl, hB2⟩
   ·have g3 : (a2 == (l0.length : Int)) = false := beq_eq_false_iff_ne.2 h3
    cases b2
    ·obtain ⟨rfl, rfl, rfl⟩ : r1 = 0 ∧ r2 = 0 ∧ r3 = 1 := by
      have := H.out
      unfold ratioP at this
      rw [if_neg (by rw [E2.out]; rintro ⟨_, h | h, _⟩; exact h1 h; cases h.2)] at this
      simp only [Prod.mk.injEq] at this
      omega
     clear H h1 h3
     go_enter Try.func19, Try.ntmps19
     go_wp2_with fail
     refine HB.out.mono ?_
     rintro _ w1 ⟨A2, c2, rfl, hs, hc2, hb1⟩
     have hB2 : Below w.heap.size w (w1.alloc (.cells #[.slice A0 l0.length c0, .int .i64 a1, .slice A2 S.length c2] 67)) := below_alloc hb1 _
     have hX2 := blk_new w1 (.cells #[.slice A0 l0.length c0, .int .i64 a1, .slice A2 S.length c2] 67)
     have hS2 := Kd.C_alloc hs (.cells #[.slice A0 l0.length c0, .int .i64 a1, .slice A2 S.length c2] 67)
     go_wp2_with fail
     refine (HCK.out _ hB2).mono ?_
     rintro _ w2 ⟨rfl, hb⟩
     replace hX2 := blk_below hX2 hb
     replace hS2 := Kd.C_below hS2 hb
     replace hB2 := below_step hB2 hb
     clear hs hb hb1
     obtain ⟨x0, x1, x2⟩ := flow_cells hX2
     have HX2 := Lib.hid hX2
     clear hX2
     go_wp2_with fail
     refine (HP2.out A2 c2 _ hc2 hB2 hS2).mono ?_
     rintro _ w3 ⟨rfl, hb⟩
     clear x0 x1 x2
     have hX2 := blk_below HX2.out hb
     replace hS2 := Kd.C_below hS2 hb
     replace hB2 := below_step hB2 hb
     clear hb HX2
     go_wp2
     go_ret3
     exact ⟨rfl, hB2⟩
    ·cases b3
     ·obtain ⟨rfl, rfl, rfl⟩ : r1 = 0 ∧ r2 = 0 ∧ r3 = 1 := by
       have := H.out
       unfold ratioP at this
       rw [if_neg (by rw [E3.out]; rintro ⟨_, _, h, _⟩; cases h)] at this
       simp only [Prod.mk.injEq] at this
       omega
      clear H h1 h3
      go_enter Try.func19, Try.ntmps19
      go_wp2_with fail
      refine HB.out.mono ?_
      rintro _ w1 ⟨A2, c2, rfl, hs, hc2, hb1⟩
      have hB2 : Below w.heap.size w (w1.alloc (.cells #[.slice A0 l0.length c0, .int .i64 a1, .slice A2 S.length c2] 67)) := below_alloc hb1 _
      have hX2 := blk_new w1 (.cells #[.slice A0 l0.length c0, .int .i64 a1, .slice A2 S.length c2] 67)
      have hS2 := Kd.C_alloc hs (.cells #[.slice A0 l0.length c0, .int .i64 a1, .slice A2 S.length c2] 67)
      go_wp2_with fail
      refine (HCK.out _ hB2).mono ?_
      rintro _ w2 ⟨rfl, hb⟩
      replace hX2 := blk_below hX2 hb
      replace hS2 := Kd.C_below hS2 hb
      replace hB2 := below_step hB2 hb
      clear hs hb hb1
      obtain ⟨x0, x1, x2⟩ := flow_cells hX2
      have HX2 := Lib.hid hX2
      clear hX2
      go_wp2_with fail
      refine (HP2.out A2 c2 _ hc2 hB2 hS2).mono ?_
      rintro _ w3 ⟨rfl, hb⟩
      clear x0 x1 x2
      have hX2 := blk_below HX2.out hb
      replace hS2 := Kd.C_below hS2 hb
      replace hB2 := below_step hB2 hb
      clear hb HX2
      obtain ⟨x0, x1, x2⟩ := flow_cells hX2
      have HX2 := Lib.hid hX2
      clear hX2
      go_wp2_with fail
      refine (HP3.out A2 c2 _ hc2 hB2 hS2).mono ?_
      rintro _ w3 ⟨rfl, hb⟩
      clear x0 x1 x2
      have hX2 := blk_below HX2.out hb
      replace hS2 := Kd.C_below hS2 hb
      replace hB2 := below_step hB2 hb
      clear hb HX2
      go_wp2
      go_ret3
      exact ⟨rfl, hB2⟩
     ·by_cases h2 : a3 ≤ a2
      ·obtain ⟨rfl, rfl, rfl⟩ : r1 = 0 ∧ r2 = 0 ∧ r3 = 1 := by
        have := H.out
        unfold ratioP at this
        rw [if_neg (by rintro ⟨_, _, _, h⟩; omega)] at this
        simp only [Prod.mk.injEq] at this
        omega
       clear H h1 h3
       go_enter Try.func19, Try.ntmps19
       go_wp2_with fail
       refine HB.out.mono ?_
       rintro _ w1 ⟨A2, c2, rfl, hs, hc2, hb1⟩
       have hB2 : Below w.heap.size w (w1.alloc (.cells #[.slice A0 l0.length c0, .int .i64 a1, .slice A2 S.length c2] 67)) := below_alloc hb1 _
       have hX2 := blk_new w1 (.cells #[.slice A0 l0.length c0, .int .i64 a1, .slice A2 S.length c2] 67)
       have hS2 := Kd.C_alloc hs (.cells #[.slice A0 l0.length c0, .int .i64 a1, .slice A2 S.length c2] 67)
       go_wp2_with fail
       refine (HCK.out _ hB2).mono ?_
       rintro _ w2 ⟨rfl, hb⟩
       replace hX2 := blk_below hX2 hb
       replace hS2 := Kd.C_below hS2 hb
       replace hB2 := below_step hB2 hb
       clear hs hb hb1
       obtain ⟨x0, x1, x2⟩ := flow_cells hX2
       have HX2 := Lib.hid hX2
       clear hX2
       go_wp2_with fail
       refine (HP2.out A2 c2 _ hc2 hB2 hS2).mono ?_
       rintro _ w3 ⟨rfl, hb⟩
       clear x0 x1 x2
       have hX2 := blk_below HX2.out hb
       replace hS2 := Kd.C_below hS2 hb
       replace hB2 := below_step hB2 hb
       clear hb HX2
       obtain ⟨x0, x1, x2⟩ := flow_cells hX2
       have HX2 := Lib.hid hX2
       clear hX2
       go_wp2_with fail
       refine (HP3.out A2 c2 _ hc2 hB2 hS2).mono ?_
       rintro _ w3 ⟨rfl, hb⟩
       clear x0 x1 x2
       have hX2 := blk_below HX2.out hb
       replace hS2 := Kd.C_below hS2 hb
       replace hB2 := below_step hB2 hb
       clear hb HX2
       go_wp2
       go_ret3
       exact ⟨rfl, hB2⟩
      ·have hk := HK.out
       have ok := check_ok hk
       have hp3 := place_le E3.out
       have hf1 : -1 ≤ a2 := (by have := place_le E2.out; omega)
       have HL := Lib.hid (line_spec ok hf1 (show a2 < a3 by omega) hp3.2 0)
       have hr := H.out
       unfold ratioP at hr
       rw [if_pos ⟨hk, .inr ⟨h3, E2.out⟩, E3.out, by omega⟩] at hr
       simp only [Prod.mk.injEq] at hr
       obtain ⟨rfl, rfl, rfl⟩ := hr
       rw [HS.out] at HL
       have hf2 : a2 < a3 := by omega
       clear hk ok hp3 H hf1
       generalize lineN l0 a2 a3 = n at *
       generalize lineY l0 a2 a3 = y at *
       generalize lineZ l0 a2 a3 = z at *
       generalize rateP l0 a1 a2 a3 = r at *
       generalize overP l0 a1 a2 a3 = o at *
       clear h1 h3
       go_enter Try.func19, Try.ntmps19
       go_wp2_with fail
       refine HB.out.mono ?_
       rintro _ w1 ⟨A2, c2, rfl, hs, hc2, hb1⟩
       have hB2 : Below w.heap.size w (w1.alloc (.cells #[.slice A0 l0.length c0, .int .i64 a1, .slice A2 S.length c2] 67)) := below_alloc hb1 _
       have hX2 := blk_new w1 (.cells #[.slice A0 l0.length c0, .int .i64 a1, .slice A2 S.length c2] 67)
       have hS2 := Kd.C_alloc hs (.cells #[.slice A0 l0.length c0, .int .i64 a1, .slice A2 S.length c2] 67)
       go_wp2_with fail
       refine (HCK.out _ hB2).mono ?_
       rintro _ w2 ⟨rfl, hb⟩
       replace hX2 := blk_below hX2 hb
       replace hS2 := Kd.C_below hS2 hb
       replace hB2 := below_step hB2 hb
       clear hs hb hb1
       obtain ⟨x0, x1, x2⟩ := flow_cells hX2
       have HX2 := Lib.hid hX2
       clear hX2
       go_wp2_with fail
       refine (HP2.out A2 c2 _ hc2 hB2 hS2).mono ?_
       rintro _ w3 ⟨rfl, hb⟩
       clear x0 x1 x2
       have hX2 := blk_below HX2.out hb
       replace hS2 := Kd.C_below hS2 hb
       replace hB2 := below_step hB2 hb
       clear hb HX2
       obtain ⟨x0, x1, x2⟩ := flow_cells hX2
       have HX2 := Lib.hid hX2
       clear hX2
       go_wp2_with fail
       refine (HP3.out A2 c2 _ hc2 hB2 hS2).mono ?_
       rintro _ w3 ⟨rfl, hb⟩
       clear x0 x1 x2
       have hX2 := blk_below HX2.out hb
       replace hS2 := Kd.C_below hS2 hb
       replace hB2 := below_step hB2 hb
       clear hb HX2
       obtain ⟨x0, x1, x2⟩ := flow_cells hX2
       have HX2 := Lib.hid hX2
       clear hX2
       go_wp2_with fail
       refine (bfl.calls 2 A0 c0 l0 a1 A2 c2 S a2 a3 _ _ _ _ _ _ (Kd.C_below HR.out hB2) HC0.out hS2 hc2 HL.out).mono ?_
       rintro _ w3 ⟨rfl, hb⟩
       clear x0 x1 x2
       replace hB2 := below_step hB2 hb
       have hb4 := below_alloc hB2 (.cells #[.int .i64 n, .int .i64 y, .int .i64 z, .int .i64 r, .bool o] 87)
       go_wp2
       go_quiet (fail)
       go_wp2
       go_ret3
       refine ⟨?_, by apply pw_below_drewN; exact hb4⟩
       first | rfl | (simp; done)
 ·rw [hk] at HCK
  obtain ⟨rfl, rfl, rfl⟩ : r1 = 0 ∧ r2 = 0 ∧ r3 = 1 := by
   have := H.out
   unfold ratioP at this
   rw [if_neg (by rw [hk]; rintro ⟨h, _⟩; cases h)] at this
   simp only [Prod.mk.injEq] at this
   omega
  clear H hk
  go_enter Try.func19, Try.ntmps19
  go_wp2_with fail
  refine HB.out.mono ?_
  rintro _ w1 ⟨A2, c2, rfl, hs, hc2, hb1⟩
  have hB2 : Below w.heap.size w (w1.alloc (.cells #[.slice A0 l0.length c0, .int .i64 a1, .slice A2 S.length c2] 67)) := below_alloc hb1 _
  have hX2 := blk_new w1 (.cells #[.slice A0 l0.length c0, .int .i64 a1, .slice A2 S.length c2] 67)
  have hS2 := Kd.C_alloc hs (.cells #[.slice A0 l0.length c0, .int .i64 a1, .slice A2 S.length c2] 67)
  go_wp2_with fail
  refine (HCK.out _ hB2).mono ?_
  rintro _ w2 ⟨rfl, hb⟩
  replace hX2 := blk_below hX2 hb
  replace hS2 := Kd.C_below hS2 hb
  replace hB2 := below_step hB2 hb
  clear hs hb hb1
  go_wp2
  go_ret3
  exact ⟨rfl, hB2⟩
def best_Demerits.f (l0 : List S43) (a1 : Int) (l2 : List Int) : Option (Int × Int) := if l0.length ≤ 1000000 ∧ l2.length ≤ 100000 then some (demeritsP l0 a1 l2) else none
structure DemInv (l : List S43) (a1 : Int) (bs : List Int) (k : Nat) (f s : Int) : Prop where
 leg : legalB l (-1) bs = legalB l f (bs.drop k)
 tot : TotP l a1 (-1) bs = s + TotP l a1 f (bs.drop k)
 f0 : -1 ≤ f
 f1 : f ≤ l.length
 s0 : 0 ≤ s
 s1 : s ≤ 1000100202600 * k
 last : (k = 0 ∧ f = -1) ∨ (0 < k ∧ f = rd bs ((k : Int) - 1))
theorem dem_start (l : List S43) (a1 : Int) (bs : List Int) : DemInv l a1 bs 0 (-1) 0 := by
 refine ⟨rfl, ?_, ?_, ?_, ?_, ?_, ?_⟩
 ·rw [List.drop_zero]; exact (Int.zero_add _).symm
 ·omega
 ·omega
 ·omega
 ·omega
 ·exact .inl ⟨rfl, rfl⟩
theorem dem_next {l : List S43} {a1 : Int} (ok : OkL l a1) {bs : List Int} {k : Nat} {f s : Int} (h : DemInv l a1 bs k f s) (hk : k < bs.length) (h1 : f < rd bs k) (h2 : placeP l (rd bs k) = true) (h3 : legalP l f (rd bs k) = true) :
  DemInv l a1 bs (k + 1) (rd bs k) (s + costP l a1 f (rd bs k)) := by
 have hp := place_le h2
 have hc := costP_bd ok h.f0 h1 hp.2
 have d := rd_drop hk
 have a := h.s0
 have b := h.s1
 refine ⟨?_, ?_, ?_, ?_, ?_, ?_, ?_⟩
 ·rw [h.leg, d]
  simp only [legalB]
  rw [decide_eq_true h1, h2, h3]
  rfl
 ·rw [h.tot, d]
  simp only [TotP, Go.DP.totF]
  omega
 ·omega
 ·omega
 ·omega
 ·omega
 ·refine .inr ⟨by omega, ?_⟩
  congr 1
  omega
theorem dem_end {l : List S43} {a1 : Int} {bs : List Int} {f s : Int} (h : DemInv l a1 bs bs.length f s) (hp : 0 < bs.length) (hl : rd bs ((bs.length : Int) - 1) = l.length) (hc : checkP l a1 = 0) : demeritsP l a1 bs = (s, 0) := by
 have h1 := h.leg
 have h2 := h.tot
 have h3 : f = l.length := by
  rcases h.last with h | h
  ·omega
  ·rw [h.2, hl]
 rw [List.drop_length] at h1 h2
 have h4 : legalB l (-1) bs = true := by rw [h1, h3]; simp [legalB]
 unfold demeritsP legalL
 rw [h4, decide_eq_true hp, if_pos ⟨hc, rfl⟩, h2]
 simp [TotP, Go.DP.totF]
theorem dem_bad {l : List S43} {a1 : Int} {bs : List Int} {k : Nat} {f s : Int} (h : DemInv l a1 bs k f s) (hk : k < bs.length) (hbad : rd bs k ≤ f ∨ placeP l (rd bs k) = false ∨ legalP l f (rd bs k) = false) : demeritsP l a1 bs = (0, 1) := by
 have h1 := h.leg
 rw [rd_drop hk] at h1
 have h2 : legalB l (-1) bs = false := by
  rw [h1]
  simp only [legalB]
  rcases hbad with h | h | h
  ·rw [decide_eq_false (by omega)]; rfl
  ·rw [h]; simp
  ·rw [h]; simp
 unfold demeritsP legalL
 rw [h2, if_neg (by simp)]
theorem legalB_last (l : List S43) : ∀ (bs : List Int) (f : Int), 0 < bs.length → legalB l f bs = true → rd bs ((bs.length : Int) - 1) = l.length := by
 intro bs f hp h
 have := ((legalB_iff l bs f).1 h).2
 rw [List.getLast?_eq_getElem?] at this
 unfold rd
 rw [List.getD_eq_getElem?_getD, show ((bs.length : Int) - 1).toNat = bs.length - 1 by omega]
 rw [List.getElem?_eq_getElem (by omega)] at this ⊢
 simpa using this
set_option maxRecDepth 100000 in
set_option maxHeartbeats 8000000 in
theorem best_Demerits.calls (A0 : Option Addr) (c0 : Nat) (l0 : List S43) (a1 : Int) (A2 : Option Addr) (c2 : Nat) (l2 : List Int) (r1 r2 : Int) (w : World) (hr0 : Kd.C k43 w A0 l0.length l0) (hc0 : l0.length ≤ c0) (hr2 : Kd.C (Kd.int .i64) w A2 l2.length l2) (hc2 : l2.length ≤ c2) (h : best_Demerits.f l0 a1 l2 = some (r1, r2)) :
  Calls Try.prog 21 #[.slice A0 l0.length c0, .int .i64 a1, .slice A2 l2.length c2] w fun e w' => e = .returned (.tuple #[.int .i64 r1, .int .i64 r2]) ∧ Below w.heap.size w w' := by
 unfold best_Demerits.f at h
 have hl : l0.length ≤ 1000000 ∧ l2.length ≤ 100000 := by
  by_cases hl : l0.length ≤ 1000000 ∧ l2.length ≤ 100000
  ·exact hl
  ·rw [if_neg hl] at h; cases h
 rw [if_pos hl] at h
 obtain ⟨hl, hl2⟩ := hl
 replace h := Option.some.inj h
 have hb := begin_flow A0 c0 l0 a1 w hl hr0
 have HB := Lib.hid hb
 have hck := fun W (hW : Below w.heap.size w W) => best_Check.calls A0 c0 l0 a1 _ W (Kd.C_below hr0 hW) hc0 rfl
 have HCK := Lib.hid hck
 obtain ⟨S, hS⟩ : ∃ S, sumsTo l0 l0.length = S := ⟨_, rfl⟩
 have hpl := fun a A2 c2 W (hc2 : S.length ≤ c2) (hW : Below w.heap.size w W) (hs : Kd.C k85 W A2 S.length S) => best_flow_place.calls A0 c0 l0 a1 A2 c2 S a _ W (Kd.C_below hr0 hW) hc0 hs hc2 (place_f l0 a1 S a)
 have hlg := fun a b A2 c2 W (hc2 : S.length ≤ c2) (hW : Below w.heap.size w W) (hs : Kd.C k85 W A2 S.length S) => best_flow_legal.calls A0 c0 l0 a1 A2 c2 S a b _ W (Kd.C_below hr0 hW) hc0 hs hc2 (legal_f l0 a1 S a b)
 have hdm := fun a b r A2 c2 W (hc2 : S.length ≤ c2) (hW : Below w.heap.size w W) (hs : Kd.C k85 W A2 S.length S) (hf : best_flow_demerits.f 2 l0 a1 S a b = some r) => best_flow_demerits.calls 2 A0 c0 l0 a1 A2 c2 S a b r W (Kd.C_below hr0 hW) hc0 hs hc2 hf
 rw [hS] at HB
 have HP := Lib.hid hpl
 have HL := Lib.hid hlg
 have HD := Lib.hid hdm
 have HR := Lib.hid hr0
 have HR2 := Lib.hid hr2
 have HC0 := Lib.hid hc0
 have H := Lib.hid h
 have HS := Lib.hid hS
 have hnl : (l0.length : Int) ≤ 1000000 := by omega
 obtain ⟨n, hn⟩ : ∃ n, l2.length = n := ⟨_, rfl⟩
 have hnl2 : (n : Int) ≤ 100000 := by omega
 rw [hn] at hl2 ⊢
 have HN := Lib.hid hn
 clear hb hr0 hc0 h hck hpl hlg hdm hS hr2 hc2 hn
 rcases check_01 l0 a1 with hk | hk
 ·rw [hk] at HCK
  have HK := Lib.hid hk
  clear hk
  by_cases h0 : n = 0
  ·subst h0
   obtain ⟨rfl, rfl⟩ : r1 = 0 ∧ r2 = 1 := by
    have := H.out
    rw [show demeritsP l0 a1 l2 = (0, 1) by unfold demeritsP legalL; rw [if_neg (by rw [HN.out]; simp)]] at this
    simp only [Prod.mk.injEq] at this
    omega
   clear H
   go_enter Try.func21, Try.ntmps21
   go_wp2_with fail
   refine HB.out.mono ?_
   rintro _ w1 ⟨A3, c3, rfl, hs, hc3, hb1⟩
   have hB2 : Below w.heap.size w (w1.alloc (.cells #[.slice A0 l0.length c0, .int .i64 a1, .slice A3 S.length c3] 67)) := below_alloc hb1 _
   have hX2 := blk_new w1 (.cells #[.slice A0 l0.length c0, .int .i64 a1, .slice A3 S.length c3] 67)
   have hS2 := Kd.C_alloc hs (.cells #[.slice A0 l0.length c0, .int .i64 a1, .slice A3 S.length c3] 67)
   go_wp2_with fail
   refine (HCK.out _ hB2).mono ?_
   rintro _ w2 ⟨rfl, hb⟩
   replace hX2 := blk_below hX2 hb
   replace hS2 := Kd.C_below hS2 hb
   replace hB2 := below_step hB2 hb
   have hgB : w.heap.size ≤ w1.heap.size := hb1.size
   clear hs hb hb1
   go_wp2
   go_ret2
   exact ⟨rfl, hB2⟩
  ·have hpos : 0 < (n : Int) := by omega
   have hp1 : 1 ≤ (n : Int) := by omega
   have hn0 : ((n : Int) == 0) = false := beq_eq_false_iff_ne.2 (by omega)
   have hlast : ∀ W, Below w.heap.size w W → ∃ ad, A2 = some ad ∧ W.cell? (ad.add ((n : Int) - 1).toNat) = some (.int .i64 (rd l2 ((n : Int) - 1))) := fun W hW => Kd.at_int (Kd.C_below HR2.out hW) ((n : Int) - 1) (by omega) (by have := HN.out; omega)
   obtain ⟨x, hx⟩ : ∃ x, rd l2 ((n : Int) - 1) = x := ⟨_, rfl⟩
   rw [hx] at hlast
   obtain ⟨ad, rfl, _⟩ := hlast w (Below.refl _ _)
   have HLA : Hid (∀ W, Below w.heap.size w W → W.cell? (ad.add (n - 1)) = some (.int .i64 x)) := Lib.hid fun W hW => by
    obtain ⟨ad', e, hc⟩ := hlast W hW
    cases e
    rw [show ((n : Int) - 1).toNat = n - 1 by omega] at hc
    exact hc
   have HX := Lib.hid hx
   clear hx hlast
   by_cases hxl : x = l0.length
   ·have g1 : (x == (l0.length : Int)) = true := beq_iff_eq.2 hxl
    have g2 : (x != (l0.length : Int)) = false := bne_eq_false_iff_eq.2 hxl
    have HXL := Lib.hid hxl
    clear hxl
    go_enter Try.func21, Try.ntmps21
    go_wp2_with fail
    refine HB.out.mono ?_
    rintro _ w1 ⟨A3, c3, rfl, hs, hc3, hb1⟩
    have hB2 : Below w.heap.size w (w1.alloc (.cells #[.slice A0 l0.length c0, .int .i64 a1, .slice A3 S.length c3] 67)) := below_alloc hb1 _
    have hX2 := blk_new w1 (.cells #[.slice A0 l0.length c0, .int .i64 a1, .slice A3 S.length c3] 67)
    have hS2 := Kd.C_alloc hs (.cells #[.slice A0 l0.length c0, .int .i64 a1, .slice A3 S.length c3] 67)
    go_wp2_with fail
    refine (HCK.out _ hB2).mono ?_
    rintro _ w2 ⟨rfl, hb⟩
    replace hX2 := blk_below hX2 hb
    replace hS2 := Kd.C_below hS2 hb
    replace hB2 := below_step hB2 hb
    have hgB : w.heap.size ≤ w1.heap.size := hb1.size
    clear hs hb hb1
    have hlc := HLA.out _ hB2
    go_wp2_with fail
    clear hlc
    go_loopw [38, 9, 10] (fun v s f wr => ∃ (k : Nat) (sum from_ : Int), DemInv l0 a1 l2 k from_ sum ∧ v = .int .i64 k ∧ s = .int .i64 sum ∧ f = .int .i64 from_ ∧ k ≤ n ∧ wr.heap[w1.heap.size]? = some (.cells #[.slice A0 l0.length c0, .int .i64 a1, .slice A3 S.length c3] 67 (0, 0)) ∧ Kd.C k85 wr A3 S.length S ∧ Below w.heap.size w wr) (fun v _ _ _ => n - (intOf v).toNat)
    case atStart => exact ⟨0, 0, -1, dem_start _ _ _, rfl, rfl, rfl, Nat.zero_le _, hX2, hS2, hB2⟩
    case round =>
     clear hX2 hS2 hB2
     obtain ⟨k, sum, from_, hJ, rfl, rfl, rfl, hk, hX2, hS2, hB2⟩ := hrel
     have j1 := hJ.f0
     have j2 := hJ.f1
     have j3 := hJ.s0
     have j4 := hJ.s1
     have HJ := Lib.hid hJ
     clear hJ
     by_cases hlt : k < n
     ·have hlt1 : (k : Int) < (n : Int) := by omega
      have hkl : k < l2.length := by have := HN.out; omega
      obtain ⟨ad', e1, q0⟩ := Kd.at_int (Kd.C_below HR2.out hB2) k (by omega) (by omega)
      cases e1
      simp only [Int.toNat_natCast] at q0
      obtain ⟨b, hb0⟩ : ∃ b, rd l2 (k : Int) = b := ⟨_, rfl⟩
      rw [hb0] at q0
      have HBB := Lib.hid hb0
      clear hb0
      by_cases h1 : b ≤ from_
      ·obtain ⟨rfl, rfl⟩ : r1 = 0 ∧ r2 = 1 := by
        have := H.out
        rw [dem_bad HJ.out hkl (.inl (by rw [HBB.out]; exact h1))] at this
        simp only [Prod.mk.injEq] at this
        omega
       clear H
       go_wp2
       go_ret2
       exact ⟨rfl, hB2⟩
      ·have h1' : from_ < b := by omega
       obtain ⟨b2, e2⟩ : ∃ x, placeP l0 b = x := ⟨_, rfl⟩
       obtain ⟨b3, e3⟩ : ∃ x, legalP l0 from_ b = x := ⟨_, rfl⟩
       have hp2 := HP.out b
       have hp3 := HL.out from_ b
       rw [e2] at hp2
       rw [e3] at hp3
       have HP2 := Lib.hid hp2
       have HP3 := Lib.hid hp3
       have E2 := Lib.hid e2
       have E3 := Lib.hid e3
       clear hp2 hp3 e2 e3 hkl
       cases b2
       ·obtain ⟨rfl, rfl⟩ : r1 = 0 ∧ r2 = 1 := by
         have := H.out
         rw [dem_bad HJ.out (by have := HN.out; omega) (.inr (.inl (by rw [HBB.out]; exact E2.out)))] at this
         simp only [Prod.mk.injEq] at this
         omega
        clear H
        obtain ⟨x0, x1, x2⟩ := flow_cells hX2
        have HX2 := Lib.hid hX2
        clear hX2
        go_wp2_with fail
        refine (HP2.out A3 c3 _ hc3 hB2 hS2).mono ?_
        rintro _ w3 ⟨rfl, hb⟩
        clear x0 x1 x2
        have hX2 := blk_below HX2.out hb
        replace hS2 := Kd.C_below hS2 hb
        replace hB2 := below_step hB2 hb
        clear hb HX2
        go_wp2
        go_ret2
        exact ⟨rfl, hB2⟩
       ·cases b3
        ·obtain ⟨rfl, rfl⟩ : r1 = 0 ∧ r2 = 1 := by
          have := H.out
          rw [dem_bad HJ.out (by have := HN.out; omega) (.inr (.inr (by rw [HBB.out]; exact E3.out)))] at this
          simp only [Prod.mk.injEq] at this
          omega
         clear H
         obtain ⟨x0, x1, x2⟩ := flow_cells hX2
         have HX2 := Lib.hid hX2
         clear hX2
         go_wp2_with fail
         refine (HP2.out A3 c3 _ hc3 hB2 hS2).mono ?_
         rintro _ w3 ⟨rfl, hb⟩
         clear x0 x1 x2
         have hX2 := blk_below HX2.out hb
         replace hS2 := Kd.C_below hS2 hb
         replace hB2 := below_step hB2 hb
         clear hb HX2
         obtain ⟨x0, x1, x2⟩ := flow_cells hX2
         have HX2 := Lib.hid hX2
         clear hX2
         go_wp2_with fail
         refine (HP3.out A3 c3 _ hc3 hB2 hS2).mono ?_
         rintro _ w4 ⟨rfl, hb⟩
         clear x0 x1 x2
         have hX2 := blk_below HX2.out hb
         replace hS2 := Kd.C_below hS2 hb
         replace hB2 := below_step hB2 hb
         clear hb HX2
         go_wp2
         go_ret2
         exact ⟨rfl, hB2⟩
        ·have hp := place_le E2.out
         have ok := check_ok HK.out
         have hcb := costP_bd ok j1 h1' hp.2
         have hcost := demerits_spec ok j1 h1' hp.2 0
         have hnx := dem_next ok HJ.out (by have := HN.out; omega) (by rw [HBB.out]; exact h1') (by rw [HBB.out]; exact E2.out) (by rw [HBB.out]; exact E3.out)
         rw [HBB.out] at hnx
         rw [HS.out] at hcost
         generalize costP l0 a1 from_ b = cc at *
         have HNX := Lib.hid hnx
         have HCO := Lib.hid hcost
         clear hnx hcost ok
         obtain ⟨x0, x1, x2⟩ := flow_cells hX2
         have HX2 := Lib.hid hX2
         clear hX2
         go_wp2_with fail
         refine (HP2.out A3 c3 _ hc3 hB2 hS2).mono ?_
         rintro _ w3 ⟨rfl, hb⟩
         clear x0 x1 x2
         have hX2 := blk_below HX2.out hb
         replace hS2 := Kd.C_below hS2 hb
         replace hB2 := below_step hB2 hb
         clear hb HX2
         obtain ⟨x0, x1, x2⟩ := flow_cells hX2
         have HX2 := Lib.hid hX2
         clear hX2
         go_wp2_with fail
         refine (HP3.out A3 c3 _ hc3 hB2 hS2).mono ?_
         rintro _ w4 ⟨rfl, hb⟩
         clear x0 x1 x2
         have hX2 := blk_below HX2.out hb
         replace hS2 := Kd.C_below hS2 hb
         replace hB2 := below_step hB2 hb
         clear hb HX2
         obtain ⟨x0, x1, x2⟩ := flow_cells hX2
         have HX2 := Lib.hid hX2
         clear hX2
         go_wp2_with fail
         refine (HD.out _ _ _ A3 c3 _ hc3 hB2 hS2 HCO.out).mono ?_
         rintro _ w5 ⟨rfl, hb⟩
         clear x0 x1 x2
         have hX2 := blk_below HX2.out hb
         replace hS2 := Kd.C_below hS2 hb
         replace hB2 := below_step hB2 hb
         clear hb HX2
         go_wp2
         go_roundw
         case rel => exact ⟨k + 1, sum + cc, b, HNX.out, by go_num, rfl, rfl, by omega, hX2, hS2, hB2⟩
         case measure => simp [intOf]; omega
     ·obtain rfl : k = n := by omega
      have hlt1 : ¬ (k : Int) < (k : Int) := by omega
      obtain ⟨rfl, rfl⟩ : r1 = sum ∧ r2 = 0 := by
       have h5 := HJ.out
       have h6 := HX.out
       rw [← HN.out] at h5 h6
       have := dem_end h5 (by have := HN.out; omega) (by rw [h6]; exact HXL.out) HK.out
       rw [H.out] at this
       simpa using this
      go_wp2
      go_ret2
      exact ⟨rfl, hB2⟩
   ·have g1 : (x == (l0.length : Int)) = false := beq_eq_false_iff_ne.2 hxl
    have g2 : (x != (l0.length : Int)) = true := bne_iff_ne.2 hxl
    have HXL := Lib.hid hxl
    clear hxl
    obtain ⟨rfl, rfl⟩ : r1 = 0 ∧ r2 = 1 := by
     have := H.out
     rw [show demeritsP l0 a1 l2 = (0, 1) by
      unfold demeritsP legalL
      rw [if_neg]
      rintro ⟨_, h⟩
      simp only [Bool.and_eq_true, decide_eq_true_eq] at h
      have := legalB_last l0 l2 _ h.1 h.2
      rw [HN.out, HX.out] at this
      exact HXL.out this] at this
     simp only [Prod.mk.injEq] at this
     omega
    clear H
    go_enter Try.func21, Try.ntmps21
    go_wp2_with fail
    refine HB.out.mono ?_
    rintro _ w1 ⟨A3, c3, rfl, hs, hc3, hb1⟩
    have hB2 : Below w.heap.size w (w1.alloc (.cells #[.slice A0 l0.length c0, .int .i64 a1, .slice A3 S.length c3] 67)) := below_alloc hb1 _
    have hX2 := blk_new w1 (.cells #[.slice A0 l0.length c0, .int .i64 a1, .slice A3 S.length c3] 67)
    have hS2 := Kd.C_alloc hs (.cells #[.slice A0 l0.length c0, .int .i64 a1, .slice A3 S.length c3] 67)
    go_wp2_with fail
    refine (HCK.out _ hB2).mono ?_
    rintro _ w2 ⟨rfl, hb⟩
    replace hX2 := blk_below hX2 hb
    replace hS2 := Kd.C_below hS2 hb
    replace hB2 := below_step hB2 hb
    have hgB : w.heap.size ≤ w1.heap.size := hb1.size
    clear hs hb hb1
    have hlc := HLA.out _ hB2
    go_wp2
    go_ret2
    exact ⟨rfl, hB2⟩
 ·rw [hk] at HCK
  obtain ⟨rfl, rfl⟩ : r1 = 0 ∧ r2 = 1 := by
   have := H.out
   rw [show demeritsP l0 a1 l2 = (0, 1) by unfold demeritsP; rw [if_neg (by rw [hk]; rintro ⟨h, _⟩; cases h)]] at this
   simp only [Prod.mk.injEq] at this
   omega
  clear H hk
  go_enter Try.func21, Try.ntmps21
  go_wp2_with fail
  refine HB.out.mono ?_
  rintro _ w1 ⟨A3, c3, rfl, hs, hc3, hb1⟩
  have hB2 : Below w.heap.size w (w1.alloc (.cells #[.slice A0 l0.length c0, .int .i64 a1, .slice A3 S.length c3] 67)) := below_alloc hb1 _
  have hX2 := blk_new w1 (.cells #[.slice A0 l0.length c0, .int .i64 a1, .slice A3 S.length c3] 67)
  have hS2 := Kd.C_alloc hs (.cells #[.slice A0 l0.length c0, .int .i64 a1, .slice A3 S.length c3] 67)
  go_wp2_with fail
  refine (HCK.out _ hB2).mono ?_
  rintro _ w2 ⟨rfl, hb⟩
  replace hX2 := blk_below hX2 hb
  replace hS2 := Kd.C_below hS2 hb
  replace hB2 := below_step hB2 hb
  have hgB : w.heap.size ≤ w1.heap.size := hb1.size
  clear hs hb hb1
  go_wp2
  go_ret2
  exact ⟨rfl, hB2⟩
end Go.Proofs.Ytbddfnmhhmkfkaa.Pr
namespace Go.Proofs.Ytbddfnmhhmkfkaa.Pr
set_option linter.unusedVariables false
set_option linter.unusedSimpArgs false
open Go.RowKit Go.Shelf Go.Proofs.YtbddfnmhhmkfkaaW.PrintWords
attribute [local go_sem] Oper.semAt_some
set_option maxHeartbeats 400000 in
theorem places_in (A : Option Addr) (m c : Nat) (wd : Int) (A2 : Option Addr) (m2 c2 : Nat) (n : Nat) (w : World) :
  CallsIn Fence.wide n Try.prog 44 #[.agg #[.slice A m c, .int .i64 wd, .slice A2 m2 c2]] w fun e w' => e = .returned (.func (.func 74) #[] #[.pointer (some ⟨w.heap.size, 0, none⟩)]) ∧ w' = w.alloc (.cells #[.slice A m c, .int .i64 wd, .slice A2 m2 c2] 67) := by
 refine callsIn_of_wp Try.func44 rfl trivial ?_ rfl
 simp only [Try.ntmps44, List.size_toArray, List.length_cons, List.length_nil, Nat.reduceAdd, Nat.reduceSub, Array.replicate_succ, Array.replicate_zero, List.push_toArray, List.append_toArray, List.nil_append, List.cons_append]
 gi_wp2
 go_ret
 exact ⟨rfl, rfl⟩
def PK (nF gb : Nat) (W W' : World) : Prop := Below nF W W' ∧ W'.heap[gb]? = W.heap[gb]?
theorem PK_t {nF gb : Nat} {X Y Z : World} (h : PK nF gb X Y) (k : PK nF gb Y Z) : PK nF gb X Z := ⟨h.1.trans k.1, k.2.trans h.2⟩
theorem PK_b {nF gb : Nat} {w : World} (h1 : nF ≤ w.heap.size) (h2 : gb < w.heap.size) (W : World) (l : Nat) (o o' : Obj) (hl : w.heap.size ≤ l) (h : W.heap[l]? = some o) (hc : o.isCells = false) (hw : o.isWalk = false) : PK nF gb W (W.putObj l o') :=
 ⟨belowK_b h1 W l o o' hl h hc hw, World.putObj_heap_other (by omega)⟩
set_option maxRecDepth 100000 in
set_option maxHeartbeats 2000000 in
theorem places_hands (n : Nat) (hn : 1 ≤ n) (l : List S43) (hl : l.length ≤ 1000000) (wd : Int) (A : Option Addr) (c : Nat) (A2 : Option Addr) (S : List S85) (c2 : Nat) (nF gb : Nat) (wF w : World) (hc : l.length ≤ c) (hc2 : S.length ≤ c2)
  (hC : ∀ W, Below nF wF W → Kd.C k43 W A l.length l ∧ Kd.C k85 W A2 S.length S) (hB : Below nF wF w) (hnF : nF ≤ w.heap.size)
  (hb : w.heap[gb]? = some (.cells #[.slice A l.length c, .int .i64 wd, .slice A2 S.length c2] 67 (0, 0))) :
  Go.Next.Hands Fence.wide n Try.prog 74 #[.pointer (some ⟨gb, 0, none⟩)] (fun x : Int => #[.int .i64 x]) (PK nF gb) (placesTo l (l.length + 1)) w := by
 intro lr J W hW hJ hY h0
 have HC := Lib.hid hC
 have hb1 := blk_below hb hW
 have hB1 : Below nF wF W := hB.trans (hW.mono hnF)
 have hsz : nF ≤ W.heap.size := Nat.le_trans hnF hW.size
 clear hC hb hB hW
 refine callsIn_of_wp Try.func74 rfl trivial ?_ rfl
 simp only [Try.ntmps74, List.size_toArray, List.length_cons, List.length_nil, Nat.reduceAdd, Nat.reduceSub, Array.replicate_succ, Array.replicate_zero, List.push_toArray, List.append_toArray, List.nil_append, List.cons_append]
 have hnl : (l.length : Int) ≤ 1000000 := by omega
 have HL := Lib.hid hl
 obtain ⟨m, hm⟩ : ∃ m, l.length = m := ⟨_, rfl⟩
 rw [hm] at hb1 hnl hY ⊢
 have HM := Lib.hid hm
 clear hm hl
 obtain ⟨x0, x1, x2⟩ := flow_cells hb1
 have HB1 := Lib.hid hb1
 clear hb1
 gi_wp2
 clear x0 x1 x2
 gi_loopw [8] (fun i wr => ∃ k : Nat, k ≤ m + 1 ∧ i = .int .i64 k ∧ J (placesTo l k) wr ∧ Below nF wF wr ∧ W.heap.size ≤ wr.heap.size ∧ wr.heap[gb]? = some (.cells #[.slice A m c, .int .i64 wd, .slice A2 S.length c2] 67 (0, 0)))
  (fun i _ => m + 1 - (intOf i).toNat)
 case atStart => exact ⟨0, Nat.zero_le _, rfl, h0, hB1, Nat.le_refl _, HB1.out⟩
 case round =>
  clear h0 hB1
  obtain ⟨k, hk, rfl, hJk, hBk, hsk, hbk⟩ := hrel
  by_cases hlt : k < m + 1
  ·have hlt1 : (k : Int) < (m : Int) + 1 := by omega
   obtain ⟨b, hpb⟩ : ∃ b, placeP l (k : Int) = b := ⟨_, rfl⟩
   have hcall := best_flow_place.calls A c l wd A2 c2 S (k : Int) _ wr (HC.out wr hBk).1 (by have := HM.out; omega) (HC.out wr hBk).2 hc2 (place_f l wd S k)
   rw [hpb, HM.out] at hcall
   have HPB := Lib.hid hpb
   have HCL := Lib.hid hcall
   clear hpb hcall
   obtain ⟨x0, x1, x2⟩ := flow_cells hbk
   have HBK := Lib.hid hbk
   clear hbk
   gi_wp2_with fail
   refine ⟨trivial, (callsIn_wide.2 HCL.out).mono ?_⟩
   rintro e w2 ⟨rfl, hb2⟩
   clear x0 x1 x2 HCL
   have hB2 : Below nF wF w2 := hBk.trans (hb2.mono (by omega))
   have hJ2 : J (placesTo l k) w2 := hJ _ _ _ none hJk (grown_of_below hb2 none) (by simp)
   have hs2 : W.heap.size ≤ w2.heap.size := Nat.le_trans hsk hb2.size
   have hbk2 := blk_below HBK.out hb2
   have hstep := placesTo_succ l k
   rw [HPB.out] at hstep
   have HST := Lib.hid hstep
   clear hb2 hJk hBk hsk hstep
   cases b
   ·gi_wp2_with fail
    refine ⟨fun _ h => (by cases h), ?_⟩
    gi_wp2
    go_roundw
    case rel => exact ⟨k + 1, by omega, by go_num, by rw [HST.out]; simpa using hJ2, hB2, hs2, hbk2⟩
    case measure => simp [intOf]; omega
   ·obtain ⟨suf, hsuf⟩ := placesTo_split l (k + 1) (m + 1 - (k + 1))
    rw [show k + 1 + (m + 1 - (k + 1)) = m + 1 by omega, HST.out] at hsuf
    obtain ⟨fn, tmps, assign, body, hy, hR⟩ := hY (placesTo l k) k suf w2 (by rw [hsuf]; simp) hJ2
    have HSF := Lib.hid hsuf
    clear hsuf
    gi_wp2
    refine hR.mono ?_
    rintro e W3 ⟨rfl, hJ3, hk3⟩
    gi_wp2
    go_roundw
    case rel => exact ⟨k + 1, by omega, by go_num, by rw [HST.out]; exact hJ3, hB2.trans hk3.1, Nat.le_trans hs2 hk3.1.size, hk3.2.trans hbk2⟩
    case measure => simp [intOf]; omega
  ·obtain rfl : k = m + 1 := by omega
   have hlt1 : ¬ (((m + 1 : Nat) : Int) < (m : Int) + 1) := by omega
   gi_wp2
   go_end0
   exact ⟨⟨_, rfl⟩, hJk⟩
end Go.Proofs.Ytbddfnmhhmkfkaa.Pr
namespace Go.DetIn
open Go Go.Det
set_option linter.unusedVariables false
variable {F : Fence} {n : Nat} {P : Program} {ops : Array Oper} {Q : Exit → Act → World → Prop} {S : World → Prop}
structure Wide (F : Fence) : Prop where
 fn : ∀ f, F.fn f
 room : ∀ k, F.room k
theorem wide_round (l : Nat) : Wide (Fence.wide.inRound l) := ⟨fun _ => trivial, fun _ => room_wide _⟩
def noDefer (ops : Array Oper) : Bool := ops.all fun o => match o.op with | .defer _ => false | _ => true
def NoDefer (ops : Array Oper) : Prop := ∀ (i : Nat) (o : Oper), ops[i]? = some o → ∀ c, o.op ≠ .defer c
theorem noDefer_spec (h : noDefer ops = true) : NoDefer ops := fun i o hi c hc => by
 obtain ⟨hlt, rfl⟩ := Array.getElem?_eq_some_iff.1 hi
 have := (Array.all_eq_true_iff_forall_mem.1 h) _ (Array.getElem_mem hlt)
 simp [hc] at this
theorem upon_imp {o : Oper} {a : Act} {K K' : Act → World → Prop} {r : Result Next} (h : ∀ a w, K a w → K' a w) (hh : o.uponIn F n P a K NoOut r) : o.uponIn F n P a K' Q r := by
 cases r with
 | ok nx w' =>
  cases nx <;> simp only [Oper.uponIn] at hh ⊢ <;>
   first
    | exact h _ _ hh
    | exact ⟨hh.1, CallsIn.mono hh.2 (fun e w'' he => by cases e <;> first | exact h _ _ he | exact he.elim | exact (noOut_lets he).elim)⟩
    | exact ⟨hh.1, RowsIn.mono hh.2 (fun _ _ he => h _ _ he)⟩
    | exact ⟨hh.1, RoundIn.mono hh.2 (fun e w'' he => by cases e <;> first | exact h _ _ he | exact he.elim | exact (noOut_lets he).elim)⟩
 | halt x w' => cases x <;> simp only [Oper.uponIn] at hh ⊢ <;> exact hh.elim
theorem upon_same {o : Oper} {x y : Act} {v : Value} {r : Result Next} (hs : y.tmps.size = x.tmps.size) (hh : o.uponIn F n P x (fun a' w' => a' = x.put o.dst v ∧ S w') NoOut r) :
  o.uponIn F n P y (fun a' w' => a' = y.put o.dst v ∧ S w') NoOut r := by
 cases r with
 | ok nx w' =>
  cases nx <;> simp only [Oper.uponIn] at hh ⊢ <;>
   first
    | exact ⟨put_inj hs hh.1, hh.2⟩
    | exact ⟨hh.1, CallsIn.mono hh.2 (fun e w'' he => by cases e <;> first | exact ⟨put_inj hs he.1, he.2⟩ | exact he.elim | exact (noOut_lets he).elim)⟩
    | exact ⟨hh.1, RowsIn.mono hh.2 (fun _ _ he => ⟨put_inj hs he.1, he.2⟩)⟩
    | exact ⟨hh.1, RoundIn.mono hh.2 (fun e w'' he => by cases e <;> first | exact ⟨put_inj hs he.1, he.2⟩ | exact he.elim | exact (noOut_lets he).elim)⟩
    | skip
  rename_i d
  exfalso
  have := congrArg (fun a : Act => a.defers.length) hh.1
  cases hd : o.dst <;> simp [hd, Act.put] at this
 | halt x w' => cases x <;> simp only [Oper.uponIn] at hh ⊢ <;> exact hh.elim
def StepV (F : Fence) (n : Nat) (P : Program) (ops : Array Oper) (S : World → Prop) (a : Act) (o : Oper) (v : Value) : Prop :=
 (Region.wanted o (yielded ops a.tmps) = true ∧ ∀ w, S w → o.wpIn F n P a w (fun a' w' => a' = a.put o.dst v ∧ S w') NoOut) ∨
 (Region.wanted o (yielded ops a.tmps) = false ∧ v = undef)
def SeqL (F : Fence) (n : Nat) (P : Program) (ops : Array Oper) (S : World → Prop) (R : Act → Prop) : List Oper → Act → Prop
 | [], a => R a
 | o :: rest, a => ∃ v, StepV F n P ops S a o v ∧ SeqL F n P ops S R rest (a.put o.dst v)
theorem step_same (W : Wide F) (nd : NoDefer ops) (ok : Ok ops) {val : Nat → Value} {a x y : Act} {L L' : Nat → Bool} {i : Nat} {o : Oper} {v : Value} (hi : ops[i]? = some o) (hx : Fr ops val a L x) (hy : Fr ops val a L' y)
  (h : ∀ j oj t, ops[j]? = some oj → oj.dst = some t → t ∈ o.looksAt ops → L j = L' j) (hs : StepV F n P ops S x o v) : StepV F n P ops S y o v := by
 have hev : execOp y.eval o = execOp x.eval o := execOp_congr o (ok.plain i o hi) fun z hz => by
  cases z with
  | tmp t =>
   have := fr_same hx hy t fun j oj hj hd => h j oj t hj hd (List.mem_append_left _ (List.mem_filterMap.2 ⟨.tmp t, by simpa using hz, rfl⟩))
   simp [Act.eval, Array.getD_eq_getD_getElem?, this]
  | _ => rfl
 have hw : Region.wanted o (yielded ops y.tmps) = Region.wanted o (yielded ops x.tmps) := by
  unfold Region.wanted
  cases hg : o.guard with
  | none => rfl
  | some gw =>
   obtain ⟨g, want⟩ := gw
   have : yielded ops y.tmps g = yielded ops x.tmps g := by
    unfold yielded
    cases ht : (ops[g]?).bind (·.dst) with
    | none => rfl
    | some t =>
     have := fr_same hx hy t fun j oj hj hd => h j oj t hj hd (by simp [Oper.looksAt, hg, ht])
     simp [this]
   simp only [this]
 have hsz : y.tmps.size = x.tmps.size := by rw [hx.2.1, hy.2.1]
 rcases hs with ⟨h1, h2⟩ | h1
 ·refine .inl ⟨by rw [hw]; exact h1, fun w hS => ?_⟩
  have := (h2 w hS).2
  rw [Oper.semAt_eq _ _ _ (nd i o hi)] at this
  refine ⟨fun f _ => W.fn f, ?_⟩
  rw [Oper.semAt_eq _ _ _ (nd i o hi), hev]
  exact upon_same hsz this
 ·exact .inr (by rw [hw]; exact h1)
theorem any_tail (ok : Ok ops) {k : Nat} (ht : tailOk ops k = true) : ∀ (fuel m : Nat) (listed : Array Bool) (a : Act) (w : World), listed.size = ops.size → (∀ i, i < ops.size → listed.getD i false = decide (i < m)) →
  k ≤ m → m ≤ ops.size → ops.size ≤ fuel + m → wpListIn F n P ops Q (ops.toList.drop m) a w → wpAnyIn F n P .any ops Q fuel listed a w := by
 intro fuel
 induction fuel with
 | zero =>
  intro m listed a w hsz hL hk hm hf h
  obtain rfl : m = ops.size := by omega
  rw [List.drop_eq_nil_of_le (by simp)] at h
  refine ⟨?_, h⟩
  rw [List.eq_nil_iff_forall_not_mem]
  intro i hi
  have hi' := ready_lt hi
  have := ((ready_iff hsz (Array.getElem?_eq_getElem hi')).1 hi).1
  rw [hL i hi'] at this
  simp at this
  omega
 | succ fuel ih =>
  intro m listed a w hsz hL hk hm hf h
  refine ⟨fun hr => ?_, fun i hi => ?_⟩
  ·have hms : m = ops.size := by
    rcases Nat.lt_or_ge m ops.size with h1 | h1
    ·have := least_ready ok hsz hr m h1
     rw [hL m h1] at this
     simp at this
    ·omega
   subst hms
   rw [List.drop_eq_nil_of_le (by simp)] at h
   exact h
  ·have hi' := ready_lt hi
   obtain ⟨h1, h2⟩ := (ready_iff hsz (Array.getElem?_eq_getElem hi')).1 hi
   rw [hL i hi'] at h1
   have hmi : m ≤ i := by simpa using h1
   have him : i = m := by
    rcases Nat.lt_or_ge m i with h3 | h3
    ·exfalso
     have hw := tail_waits ht hi' (by omega) h3
     have hcl : ∀ (j : Nat) (o : Oper), ops[j]? = some o → listed.getD j false = true → ∀ e ∈ o.after, Region.binds .any e = true → listed.getD e.on false = true := fun j o hj hl e he _ => by
      have hb := ok.back j o hj e he
      have hj' := lt_of_some hj
      rw [hL j hj'] at hl
      rw [hL e.on (by omega)]
      simp at hl ⊢
      omega
     have := waits_listed hcl ops.size i m (fun o ho e he hb => by
      rw [Array.getElem?_eq_getElem hi'] at ho
      cases ho
      exact h2 e he hb) hw
     rw [hL m (by omega)] at this
     simp at this
    ·omega
   subst him
   have ho : ops[i]? = some ops[i] := Array.getElem?_eq_getElem hi'
   rw [drop_cons ho] at h
   have hnext : ∀ a w, wpListIn F n P ops Q (ops.toList.drop (i + 1)) a w → wpAnyIn F n P .any ops Q fuel (listed.setIfInBounds i true) a w := fun a w h' =>
    ih (i + 1) _ a w (by simpa using hsz) (fun j hj => by
     rw [set_getD (by omega), hL j hj, Bool.eq_iff_iff]; simp; omega) (by omega) (by omega) (by omega) h'
   unfold wpOpIn
   rw [ho]
   simp only
   unfold wpListIn at h
   split
   ·rename_i hw
    rw [if_pos hw] at h
    exact Oper.wpIn_mono hnext h
   ·rename_i hw
    rw [if_neg hw] at h
    exact ⟨h.1, hnext _ _ h.2⟩
theorem any_det (W : Wide F) (nd : NoDefer ops) (ok : Ok ops) {k : Nat} (hkn : k ≤ ops.size) (ht : tailOk ops k = true) {val : Nat → Value} {a0 : Act} (hsteps : ∀ i o, i < k → ops[i]? = some o → ∃ x, Fr ops val a0 (fun j => decide (j < i)) x ∧ StepV F n P ops S x o (val i))
  (hend : ∀ x, Fr ops val a0 (fun j => decide (j < k)) x → ∀ w, S w → wpListIn F n P ops Q (ops.toList.drop k) x w) : ∀ (fuel : Nat) (listed : Array Bool) (a : Act) (w : World), listed.size = ops.size →
  cnt (fun i => listed.getD i false) ops.size ≤ fuel → (∀ i o, ops[i]? = some o → listed.getD i false = true → ∀ e ∈ o.after, Region.binds .any e = true → listed.getD e.on false = true) →
  (∀ i, i < ops.size → listed.getD i false = true → i < k) →
  Fr ops val a0 (fun i => listed.getD i false) a → S w → wpAnyIn F n P .any ops Q fuel listed a w := by
 intro fuel
 induction fuel with
 | zero =>
  intro listed a w hsz hc hcl hlk hf hS
  have hall := cnt_zero _ _ (Nat.le_zero.1 hc)
  have hks : k = ops.size := by
   rcases Nat.lt_or_ge k ops.size with h | h
   ·have := hlk k h (hall k h); omega
   ·omega
  refine any_tail ok ht 0 k listed a w hsz (fun i hi => by rw [hall i hi]; simp; omega) (Nat.le_refl _) hkn (by omega) (hend a (fr_congr hf (fun j hj => ?_) (fun _ _ => rfl)) w hS)
  rw [hall j hj]; simp; omega
 | succ fuel ih =>
  intro listed a w hsz hc hcl hlk hf hS
  by_cases hdone : ∀ i, i < k → listed.getD i false = true
  ·have hL : ∀ i, i < ops.size → listed.getD i false = decide (i < k) := fun i hi => by
    by_cases hik : i < k
    ·rw [hdone i hik]; simp [hik]
    ·have : listed.getD i false ≠ true := fun h => hik (hlk i hi h)
     simp only [Bool.not_eq_true] at this
     rw [this]; simp [hik]
   have hcnt : ops.size ≤ cnt (fun i => listed.getD i false) ops.size + k := by
    have : ∀ n, n ≤ ops.size → n ≤ cnt (fun i => listed.getD i false) n + k := fun n => by
     induction n with
     | zero => intro _; omega
     | succ n ihn =>
      intro hn
      simp only [cnt]
      have := ihn (by omega)
      have hLn := hL n (by omega)
      by_cases hnk : n < k
      ·split <;> omega
      ·rw [if_neg (by rw [hLn]; simp [hnk])]
       omega
    exact this _ (Nat.le_refl _)
   exact any_tail ok ht (fuel + 1) k listed a w hsz hL (Nat.le_refl _) hkn (by omega) (hend a (fr_congr hf (fun j hj => (hL j hj).symm) (fun _ _ => rfl)) w hS)
  refine ⟨fun hr => absurd (fun i hi => least_ready ok hsz hr i (by omega)) hdone, fun i hi => ?_⟩
  have hin : i < ops.size := ready_lt hi
  have hil : i < listed.size := by omega
  obtain ⟨o, ho⟩ : ∃ o, ops[i]? = some o := ⟨_, Array.getElem?_eq_getElem hin⟩
  obtain ⟨hlf, hdeps⟩ := (ready_iff hsz ho).1 hi
  have hik : i < k := by
   rcases Nat.lt_or_ge i k with h | h
   ·exact h
   ·exfalso
    refine hdone fun j hj => ?_
    have hw := tail_waits ht hin h (show j < i by omega)
    exact waits_listed hcl ops.size i j (fun o' ho' e he hb => by
     rw [ho] at ho'
     cases ho'
     exact hdeps e he hb) hw
  have hset : ∀ j, (listed.setIfInBounds i true).getD j false = (listed.getD j false || j == i) := fun j => set_getD hil j
  obtain ⟨x, hfx, hsx⟩ := hsteps i o hik ho
  have hst : StepV F n P ops S a o (val i) := step_same W nd ok ho hfx hf (fun j oj t hj hd ht => by
   rcases ok.reads i o j oj t ho hj hd ht with ⟨e, he, hb, rfl⟩ | ⟨hne, e, he, hb, hei⟩
   ·rw [hdeps e he hb]
    simpa using ok.back i o ho e he
   ·have hlt : i < j := hei ▸ ok.back j oj hj e he
    have : listed.getD j false = false := by
     cases hlj : listed.getD j false with
     | false => rfl
     | true =>
      have := hcl j oj hj hlj e he hb
      rw [hei, hlf] at this
      cases this
    rw [this]
    simp; omega) hsx
  have hnext : ∀ w', S w' → wpAnyIn F n P .any ops Q fuel (listed.setIfInBounds i true) (a.put o.dst (val i)) w' := fun w' hS' => by
   refine ih _ _ _ (by simpa using hsz) ?_ ?_ ?_ ?_ hS'
   ·have := (cnt_set (fun j => listed.getD j false) (fun j => (listed.setIfInBounds i true).getD j false) i hlf hset ops.size).1 hin
    omega
   ·intro j oj hj hlj e he hb
    rw [hset] at hlj ⊢
    rcases Bool.or_eq_true .. ▸ hlj with h | h
    ·rw [hcl j oj hj h e he hb]; rfl
    ·have : j = i := by simpa using h
     subst this
     rw [ho] at hj
     cases hj
     rw [hdeps e he hb]; rfl
   ·intro j hj hlj
    rw [hset] at hlj
    rcases Bool.or_eq_true .. ▸ hlj with h | h
    ·exact hlk j hj h
    ·have : j = i := by simpa using h
     omega
   ·exact fr_put ok ho hf fun j _ => hset j
  unfold wpOpIn
  rw [ho]
  simp only
  rcases hst with ⟨hw, hrun⟩ | ⟨hw, hv⟩
  ·rw [if_pos hw]
   refine ⟨fun f _ => W.fn f, ?_⟩
   exact upon_imp (fun a' w' ⟨ha', hS'⟩ => ha' ▸ hnext w' hS') (hrun w hS).2
  ·rw [if_neg (by rw [hw]; simp)]
   rw [← hv]
   exact ⟨fun f _ => W.fn f, hnext w hS⟩
def SeqW (F : Fence) (n : Nat) (P : Program) (ops : Array Oper) (S : World → Prop) (d : List Deferred) (R : Array Value → Prop) : List Oper → Array Value → Prop
 | [], t => R t
 | o :: rest, t => ∃ t' : Array Value, (∀ w, S w → wpListIn F n P ops (fun e a' w' => e = .normal ∧ a' = { tmps := t', defers := d } ∧ S w') [o] { tmps := t, defers := d } w) ∧ SeqW F n P ops S d R rest t'
theorem upon_some (W : Wide F) {o : Oper} {t T : Array Value} {d : List Deferred} {r : Result Next} (h : o.uponIn F n P { tmps := t, defers := d } (fun a' w' => a' = { tmps := T, defers := d } ∧ S w') NoOut r) :
  ({ tmps := T, defers := d } : Act) = ({ tmps := t, defers := d } : Act).put o.dst (putVal o.dst T) := by
 cases r with
 | ok nx w' =>
  cases nx <;> simp only [Oper.uponIn] at h <;>
   first
    | exact put_putVal h.1
    | (obtain ⟨e, w'', fr, he, _⟩ := h.2.2 [] (W.room _)
       cases e <;> first | exact put_putVal he.1 | exact he.elim | exact (noOut_lets he).elim)
    | (obtain ⟨v, w'', hv, _⟩ := h.2 (Frame.enter P 0 #[] .normal) [] (W.room _)
       exact put_putVal hv.1)
    | (obtain ⟨e, w'', he, _⟩ := h.2.2 (Frame.enter P 0 #[] .normal) [] (W.room _)
       cases e <;> first | exact put_putVal he.1 | exact he.elim | exact (noOut_lets he).elim)
    | skip
  rename_i x
  exfalso
  have := congrArg (fun a : Act => a.defers.length) h.1
  cases hd : o.dst <;> simp [hd, Act.put] at this
 | halt x w' => cases x <;> simp only [Oper.uponIn] at h <;> exact h.elim
theorem wpList_one {o : Oper} {t T : Array Value} {d : List Deferred} {w : World} (h : wpListIn F n P ops (fun e a' w' => e = .normal ∧ a' = { tmps := T, defers := d } ∧ S w') [o] { tmps := t, defers := d } w) :
  (Region.wanted o (yielded ops t) = true ∧ o.wpIn F n P { tmps := t, defers := d } w (fun a' w' => a' = { tmps := T, defers := d } ∧ S w') NoOut) ∨
  (Region.wanted o (yielded ops t) = false ∧ ({ tmps := t, defers := d } : Act).put o.dst undef = { tmps := T, defers := d }) := by
 unfold wpListIn at h
 split at h
 ·rename_i hw
  refine .inl ⟨hw, h.1, ?_⟩
  have h2 := h.2
  generalize (Oper.semAt F.round ({ tmps := t, defers := d } : Act).eval o).run P w = r at h2
  have hlets : ¬ LetsOut (fun (e : Exit) (a' : Act) (w' : World) => e = .normal ∧ a' = { tmps := T, defers := d } ∧ S w') := by
   rintro ⟨_, _, h1, _⟩
   exact absurd h1 (by simp)
  cases r with
  | ok nx w' =>
   cases nx <;> simp only [Oper.uponIn, wpListIn] at h2 ⊢ <;>
    first
     | exact h2.2
     | exact ⟨h2.1, CallsIn.mono h2.2 (fun e w'' he => by cases e <;> first | exact he.2 | exact absurd he.1 (by simp) | exact absurd he hlets)⟩
     | exact ⟨h2.1, RowsIn.mono h2.2 (fun _ _ he => he.2)⟩
     | exact ⟨h2.1, RoundIn.mono h2.2 (fun e w'' he => by cases e <;> first | exact he.2 | exact absurd he.1 (by simp) | exact absurd he hlets)⟩
  | halt x w' => cases x <;> simp only [Oper.uponIn] at h2 ⊢ <;> first | exact h2.elim | exact absurd h2.1 (by simp)
 ·rename_i hw
  simp only [wpListIn] at h
  exact .inr ⟨by simpa using hw, h.2.2.1⟩
theorem seqL_of_W (W : Wide F) {d : List Deferred} {R : Array Value → Prop} {w0 : World} (h0 : S w0) : ∀ (l : List Oper) (t : Array Value), SeqW F n P ops S d R l t → SeqL F n P ops S (fun a => ∃ t, a = { tmps := t, defers := d } ∧ R t) l { tmps := t, defers := d }
 | [], t, h => ⟨t, rfl, h⟩
 | o :: rest, t, h => by
  obtain ⟨T, hT, hr⟩ := h
  have hr' := seqL_of_W W h0 rest T hr
  have h1 := wpList_one (hT w0 h0)
  cases hw : Region.wanted o (yielded ops t) with
  | true =>
   rw [hw] at h1
   rcases h1 with ⟨_, h1⟩ | ⟨h1, _⟩
   ·have e := upon_some W h1.2
    refine ⟨putVal o.dst T, .inl ⟨hw, fun w hS => ?_⟩, e ▸ hr'⟩
    rcases wpList_one (hT w hS) with ⟨_, h2⟩ | ⟨h2, _⟩
    ·rw [e] at h2; exact h2
    ·rw [hw] at h2; cases h2
   ·cases h1
  | false =>
   rw [hw] at h1
   rcases h1 with ⟨h1, _⟩ | ⟨_, h1⟩
   ·cases h1
   ·exact ⟨undef, .inr ⟨hw, rfl⟩, h1 ▸ hr'⟩
theorem seqL_split : ∀ (l l' : List Oper) (R : Act → Prop) (a : Act), SeqL F n P ops S (fun x => SeqL F n P ops S R l' x) l a → SeqL F n P ops S R (l ++ l') a
 | [], l', R, a, h => h
 | o :: l, l', R, a, h => by
  obtain ⟨v, h1, h2⟩ := h
  exact ⟨v, h1, seqL_split l l' R _ h2⟩
theorem seq_split (ok : Ok ops) {a0 : Act} {R : Act → Prop} : ∀ (l : List Oper) (i : Nat) (val0 : Nat → Value) (a : Act), (∀ j o, l[j]? = some o → ops[i + j]? = some o) → Fr ops val0 a0 (fun j => decide (j < i)) a → SeqL F n P ops S R l a →
  ∃ val : Nat → Value, (∀ j, j < i → val j = val0 j) ∧ (∀ k o, i ≤ k → k < i + l.length → ops[k]? = some o → ∃ x, Fr ops val a0 (fun j => decide (j < k)) x ∧ StepV F n P ops S x o (val k)) ∧
   ∃ x, Fr ops val a0 (fun j => decide (j < i + l.length)) x ∧ R x
 | [], i, val0, a, hl, hf, h => ⟨val0, fun _ _ => rfl, fun k o hk ho => absurd ho (by simp; omega), a, hf, h⟩
 | o :: rest, i, val0, a, hl, hf, h => by
  obtain ⟨v, hs, hrest⟩ := h
  have hi : ops[i]? = some o := hl 0 o (by simp)
  let val1 : Nat → Value := fun j => if j = i then v else val0 j
  have hf1 : Fr ops val1 a0 (fun j => decide (j < i)) a := fr_congr hf (fun _ _ => rfl) (fun j hj => by
   have : j < i := by simpa using hj
   show (if j = i then v else val0 j) = _
   rw [if_neg (by omega)])
  have hv1 : val1 i = v := if_pos rfl
  have hf2 : Fr ops val1 a0 (fun j => decide (j < i + 1)) (a.put o.dst v) := by
   rw [← hv1]
   exact fr_put ok hi hf1 fun j _ => by
    rw [Bool.eq_iff_iff]; simp; omega
  obtain ⟨val, hv, hsteps, hend⟩ := seq_split ok rest (i + 1) val1 (a.put o.dst v) (fun j o' hj => by
   have := hl (j + 1) o' (by simpa using hj)
   rw [show i + 1 + j = i + (j + 1) by omega]; exact this) hf2 hrest
  refine ⟨val, fun j hj => ?_, fun k ok' hk hkl hko => ?_, ?_⟩
  ·rw [hv j (by omega)]
   show (if j = i then v else val0 j) = _
   rw [if_neg (by omega)]
  ·by_cases hki : k = i
   ·subst hki
    rw [hi] at hko
    cases hko
    refine ⟨a, fr_congr hf1 (fun _ _ => rfl) (fun j hj => hv j (Nat.lt_succ_of_lt (by simpa using hj))), ?_⟩
    rw [hv k (by omega), hv1]
    exact hs
   ·exact hsteps k ok' (by omega) (by simp only [List.length_cons] at hkl; omega) hko
  ·rw [show i + (o :: rest).length = i + 1 + rest.length by simp only [List.length_cons]; omega]
   exact hend
theorem region_det (W : Wide F) {id : Nat} {l : List Oper} {t : Array Value} {d : List Deferred} {w : World} (S : World → Prop) (k : Nat) (hm : P.follows .mixedOrders = true) (hok : okOps l.toArray = true) (hnd : noDefer l.toArray = true) (ht : tailOk l.toArray k = true) (hk : k ≤ l.length) (hS : S w.drew)
  (h : SeqW F n P l.toArray S d (fun t' => ∀ w', S w' → wpListIn F n P l.toArray Q (l.drop k) { tmps := t', defers := d } w') (l.take k) t) : (Code.region id l.toArray true).wpIn F n P Q { tmps := t, defers := d } w := by
 have ok := okOps_spec hok
 have hlen : l.toArray.size = l.length := by simp
 refine wpIn_region_any hm ?_
 obtain ⟨val, _, hsteps, x, hfx, t', rfl, hR⟩ := seq_split ok (l.take k) 0 (fun _ => undef) { tmps := t, defers := d } (fun j o hj => by
  rw [List.getElem?_take] at hj
  split at hj
  ·simpa using hj
  ·cases hj) (fr_start _ _ _ fun i _ => by simp) (seqL_of_W W hS _ _ h)
 have hlk : 0 + (l.take k).length = k := by rw [List.length_take]; omega
 rw [hlk] at hsteps hfx
 refine any_det W (noDefer_spec hnd) ok (k := k) (by omega) ht (val := val) (fun i o hi ho => hsteps i o (Nat.zero_le _) hi ho) (fun y hy w' hS' => ?_) _ _ _ _ (by simp) ?_ ?_ ?_ ?_ hS
 ·rw [fr_eq hy hfx fun _ _ => rfl]
  exact hR w' hS'
 ·have : ∀ (L : Nat → Bool) n, cnt L n ≤ n := fun L n => by
   induction n with
   | zero => exact Nat.le_refl _
   | succ n ih => simp only [cnt]; split <;> omega
  exact this _ _
 ·intro i o hi hl
  rw [rep_false] at hl
  cases hl
 ·intro i hi hl
  rw [rep_false] at hl
  cases hl
 ·exact fr_start _ _ _ fun i hi => rep_false _ i
def AtEnd (S : World → Prop) (d : List Deferred) (t' : Array Value) : Exit → Act → World → Prop := fun e a' w' => e = .normal ∧ a' = { tmps := t', defers := d } ∧ S w'
theorem AtEnd.mk {d : List Deferred} {t' : Array Value} {w : World} (h : S w) : AtEnd S d t' .normal { tmps := t', defers := d } w := ⟨rfl, rfl, h⟩
theorem seqW_cons {d : List Deferred} {R : Array Value → Prop} {o : Oper} {rest : List Oper} {t t' : Array Value} (h : ∀ w, S w → wpListIn F n P ops (AtEnd S d t') [o] { tmps := t, defers := d } w)
  (hr : SeqW F n P ops S d R rest t') : SeqW F n P ops S d R (o :: rest) t := ⟨t', h, hr⟩
theorem seqW_nil {d : List Deferred} {R : Array Value → Prop} {t : Array Value} (h : R t) : SeqW F n P ops S d R [] t := h
theorem region_all (W : Wide F) {id : Nat} {l : List Oper} {t : Array Value} {d : List Deferred} {w : World} (S : World → Prop) (hm : P.follows .mixedOrders = true) (hok : okOps l.toArray = true) (hnd : noDefer l.toArray = true) (hS : S w.drew)
  (h : SeqW F n P l.toArray S d (fun t' => ∀ w', S w' → Q .normal { tmps := t', defers := d } w') l t) : (Code.region id l.toArray true).wpIn F n P Q { tmps := t, defers := d } w := by
 have ht : tailOk l.toArray l.length = true := by
  unfold tailOk
  rw [List.all_eq_true]
  intro j hj
  have : j < l.length := by simpa using hj
  simp [this]
 refine region_det W S l.length hm hok hnd ht (Nat.le_refl _) hS ?_
 rw [List.take_of_length_le (Nat.le_refl _), List.drop_of_length_le (Nat.le_refl _)]
 exact h
end Go.DetIn
