/- Texts of this seat, one behind the other. -/
import Derived.Orders
import Derived.Deep.RegionHeld
import Derived.WalkKit
import Derived.Lib.Hide
import Derived.RangeFuncNested
import Derived.RangeFuncBound
import Derived.RangeFuncCalls
import Derived.RangeFuncLeaves
import Derived.Shelf.Abstract
import Derived.Shelf.RegionOpen
import Derived.OwnWalkIn
import Derived.TacticsInMore
import Derived.LoopNIn
import Derived.LoopIn
import Derived.RangeFuncBox
import Derived.Maps.AppendAt
import Derived.Test.YthcmfjpheanphaaXTreeParses1
import Derived.Test.YthcmfjpheanphaaXTreeParses2
set_option linter.unusedVariables false
set_option linter.unusedSimpArgs false
namespace Go.Det
open Go
variable {P : Program} {ops : Array Oper} {Q : Exit → Act → World → Prop} {S : World → Prop}
def NoOut : Exit → Act → World → Prop := fun _ _ _ => False
theorem noOut_lets : ¬ LetsOut NoOut := fun ⟨_, _, h⟩ => h
theorem upon_imp {o : Oper} {a : Act} {K K' : Act → World → Prop} {r : Result Next} (h : ∀ a w, K a w → K' a w) (hh : o.upon P a K NoOut r) : o.upon P a K' Q r := by
 cases r with
 | ok n w' =>
  cases n <;> simp only [Oper.upon] at hh ⊢ <;>
   first
    | exact h _ _ hh
    | exact Calls.mono hh (fun e w'' he => by cases e <;> first | exact h _ _ he | exact he.elim | exact (noOut_lets he).elim)
    | exact Rows.mono hh (fun _ _ he => h _ _ he)
 | halt x w' => cases x <;> simp only [Oper.upon] at hh ⊢ <;> exact hh.elim
theorem put_inj {a b : Act} {dst : Option Tmp} {u v : Value} (hs : b.tmps.size = a.tmps.size) (h : a.put dst u = a.put dst v) : b.put dst u = b.put dst v := by
 cases dst with
 | none => rfl
 | some d =>
  by_cases hd : d < a.tmps.size
  ·have h1 : (a.put (some d) u).tmps[d]? = (a.put (some d) v).tmps[d]? := by rw [h]
   simp only [Act.put, Array.getElem?_setIfInBounds, if_pos hd, if_true, Option.some.injEq] at h1
   rw [h1]
  ·simp only [Act.put]
   rw [Array.setIfInBounds_eq_of_size_le (by rw [hs]; exact Nat.le_of_not_lt hd), Array.setIfInBounds_eq_of_size_le (by rw [hs]; exact Nat.le_of_not_lt hd)]
theorem upon_same {o : Oper} {x y : Act} {v : Value} {r : Result Next} (hs : y.tmps.size = x.tmps.size) (hh : o.upon P x (fun a' w' => a' = x.put o.dst v ∧ S w') NoOut r) :
  o.upon P y (fun a' w' => a' = y.put o.dst v ∧ S w') NoOut r := by
 cases r with
 | ok n w' =>
  cases n <;> simp only [Oper.upon] at hh ⊢ <;>
   first
    | exact ⟨put_inj hs hh.1, hh.2⟩
    | exact Calls.mono hh (fun e w'' he => by cases e <;> first | exact ⟨put_inj hs he.1, he.2⟩ | exact he.elim | exact (noOut_lets he).elim)
    | exact Rows.mono hh (fun _ _ he => ⟨put_inj hs he.1, he.2⟩)
    | skip
  rename_i d
  exfalso
  have := congrArg (fun a : Act => a.defers.length) hh.1
  cases hd : o.dst <;> simp [hd, Act.put] at this
 | halt x w' => cases x <;> simp only [Oper.upon] at hh ⊢ <;> exact hh.elim
def StepV (P : Program) (ops : Array Oper) (S : World → Prop) (a : Act) (o : Oper) (v : Value) : Prop :=
 (Region.wanted o (yielded ops a.tmps) = true ∧ ∀ w, S w → o.wp P a w (fun a' w' => a' = a.put o.dst v ∧ S w') NoOut) ∨
 (Region.wanted o (yielded ops a.tmps) = false ∧ v = undef)
def SeqL (P : Program) (ops : Array Oper) (S : World → Prop) (R : Act → Prop) : List Oper → Act → Prop
 | [], a => R a
 | o :: rest, a => ∃ v, StepV P ops S a o v ∧ SeqL P ops S R rest (a.put o.dst v)
def okAt (ops : Array Oper) (i : Nat) (o : Oper) : Bool :=
 (o.after.all fun e => !Region.binds .any e || decide (e.on < i)) &&
 ((List.range ops.size).all fun j => match ops[j]? with
  | none => true
  | some oj =>
   (match oj.dst with
    | none => true
    | some t => (j == i || o.dst != some t) &&
     (!(o.looksAt ops).contains t || (o.after.any fun e => Region.binds .any e && e.on == j) || (j != i && oj.after.any fun e => Region.binds .any e && e.on == i)))) &&
 (match o.op with | .select _ _ => false | _ => true)
def okOps (ops : Array Oper) : Bool := (List.range ops.size).all fun i => match ops[i]? with | none => true | some o => okAt ops i o
structure Ok (ops : Array Oper) : Prop where
 back : ∀ (i : Nat) (o : Oper), ops[i]? = some o → ∀ e ∈ o.after, Region.binds .any e = true → e.on < i
 apart : ∀ (i : Nat) (o : Oper) (j : Nat) (oj : Oper) (t : Tmp), ops[i]? = some o → ops[j]? = some oj → oj.dst = some t → j ≠ i → o.dst ≠ some t
 reads : ∀ (i : Nat) (o : Oper) (j : Nat) (oj : Oper) (t : Tmp), ops[i]? = some o → ops[j]? = some oj → oj.dst = some t → t ∈ o.looksAt ops →
  (∃ e ∈ o.after, Region.binds .any e = true ∧ e.on = j) ∨ (j ≠ i ∧ ∃ e ∈ oj.after, Region.binds .any e = true ∧ e.on = i)
 plain : ∀ (i : Nat) (o : Oper), ops[i]? = some o → ∀ cs b, o.op ≠ .select cs b
theorem lt_of_some {i : Nat} {o : Oper} (h : ops[i]? = some o) : i < ops.size := (Array.getElem?_eq_some_iff.1 h).1
theorem okOps_spec (h : okOps ops = true) : Ok ops := by
 have hat : ∀ (i : Nat) (o : Oper), ops[i]? = some o → okAt ops i o = true := fun i o hi => by
  have := List.all_eq_true.1 h i (List.mem_range.2 (lt_of_some hi))
  simpa [hi] using this
 have pair : ∀ (i : Nat) (o : Oper) (j : Nat) (oj : Oper) (t : Tmp), ops[i]? = some o → ops[j]? = some oj → oj.dst = some t → ((j == i || o.dst != some t) &&
     (!(o.looksAt ops).contains t || (o.after.any fun e => Region.binds .any e && e.on == j) || (j != i && oj.after.any fun e => Region.binds .any e && e.on == i))) = true := fun i o j oj t hi hj hd => by
  have := hat i o hi
  simp only [okAt, Bool.and_eq_true] at this
  have h2 := List.all_eq_true.1 this.1.2 j (List.mem_range.2 (lt_of_some hj))
  simp only [hj, hd] at h2
  exact h2
 refine ⟨fun i o hi e he hbe => ?_, fun i o j oj t hi hj hd hne => ?_, fun i o j oj t hi hj hd ht => ?_, fun i o hi cs b hs => ?_⟩
 ·have := hat i o hi
  simp only [okAt, Bool.and_eq_true] at this
  have := (Array.all_eq_true_iff_forall_mem.1 this.1.1) e he
  simpa [hbe] using this
 ·have := pair i o j oj t hi hj hd
  simp only [Bool.and_eq_true, Bool.or_eq_true, beq_iff_eq, bne_iff_ne] at this
  rcases this.1 with h1 | h1
  ·exact absurd h1 hne
  ·exact h1
 ·have := pair i o j oj t hi hj hd
  simp only [Bool.and_eq_true, Bool.or_eq_true, beq_iff_eq, bne_iff_ne, Bool.not_eq_true', Array.any_eq_true'] at this
  rcases this.2 with (h1 | h1) | ⟨h0, h1⟩
  ·rw [List.contains_eq_mem] at h1
   simp [ht] at h1
  ·obtain ⟨e, he, h2⟩ := h1
   exact .inl ⟨e, he, by simpa using h2⟩
  ·obtain ⟨e, he, h2⟩ := h1
   exact .inr ⟨h0, e, he, by simpa using h2⟩
 ·have := hat i o hi
  simp only [okAt, Bool.and_eq_true, hs] at this
  exact absurd this.2 (by simp)
def Fr (ops : Array Oper) (val : Nat → Value) (a : Act) (L : Nat → Bool) (x : Act) : Prop :=
 x.defers = a.defers ∧ x.tmps.size = a.tmps.size ∧ ∀ t, t < a.tmps.size →
  (∀ i o, ops[i]? = some o → L i = true → o.dst = some t → x.tmps[t]? = some (val i)) ∧
  ((∀ i o, ops[i]? = some o → L i = true → o.dst ≠ some t) → x.tmps[t]? = a.tmps[t]?)
theorem fr_start (val : Nat → Value) (a : Act) (L : Nat → Bool) (h : ∀ i, i < ops.size → L i = false) : Fr ops val a L a :=
 ⟨rfl, rfl, fun t ht => ⟨fun i o hi hl => (by rw [h i (lt_of_some hi)] at hl; exact absurd hl (by simp)), fun _ => rfl⟩⟩
theorem fr_congr {val val' : Nat → Value} {a x : Act} {L L' : Nat → Bool} (h : Fr ops val a L x) (hL : ∀ i, i < ops.size → L' i = L i) (hv : ∀ i, L i = true → val' i = val i) : Fr ops val' a L' x :=
 ⟨h.1, h.2.1, fun t ht => ⟨fun i o hi hl hd => by
   have hl' : L i = true := by rw [← hL i (lt_of_some hi)]; exact hl
   rw [hv i hl']; exact (h.2.2 t ht).1 i o hi hl' hd,
  fun hn => (h.2.2 t ht).2 fun i o hi hl => hn i o hi (by rw [hL i (lt_of_some hi)]; exact hl)⟩⟩
theorem fr_put (ok : Ok ops) {val : Nat → Value} {a x : Act} {L L' : Nat → Bool} {i : Nat} {o : Oper} (hi : ops[i]? = some o) (h : Fr ops val a L x)
  (hL : ∀ j, j < ops.size → L' j = (L j || j == i)) : Fr ops val a L' (x.put o.dst (val i)) := by
 obtain ⟨h1, h2, h3⟩ := h
 cases hd : o.dst with
 | none =>
  refine ⟨h1, h2, fun t ht => ⟨fun j oj hj hl hdj => ?_, fun hn => ?_⟩⟩
  ·rw [hL j (lt_of_some hj)] at hl
   rcases Bool.or_eq_true .. ▸ hl with hl | hl
   ·exact (h3 t ht).1 j oj hj hl hdj
   ·have : j = i := by simpa using hl
    subst this
    rw [hi] at hj
    cases hj
    rw [hd] at hdj
    cases hdj
  ·exact (h3 t ht).2 fun j oj hj hl => hn j oj hj (by rw [hL j (lt_of_some hj), hl]; rfl)
 | some d =>
  refine ⟨h1, by simp [Act.put, h2], fun t ht => ?_⟩
  by_cases htd : d = t
  ·subst htd
   have hv : (x.put (some d) (val i)).tmps[d]? = some (val i) := by simp [Act.put, h2, ht]
   refine ⟨fun j oj hj hl hdj => ?_, fun hn => absurd hd (hn i o hi (by rw [hL i (lt_of_some hi)]; simp))⟩
   by_cases hji : j = i
   ·subst hji; exact hv
   ·exact absurd hd (ok.apart i o j oj d hi hj hdj hji)
  ·have hv : (x.put (some d) (val i)).tmps[t]? = x.tmps[t]? := by simp [Act.put, Array.getElem?_setIfInBounds_ne htd]
   rw [hv]
   refine ⟨fun j oj hj hl hdj => ?_, fun hn => (h3 t ht).2 fun j oj hj hl => hn j oj hj (by rw [hL j (lt_of_some hj), hl]; rfl)⟩
   rw [hL j (lt_of_some hj)] at hl
   rcases Bool.or_eq_true .. ▸ hl with hl | hl
   ·exact (h3 t ht).1 j oj hj hl hdj
   ·have : j = i := by simpa using hl
    subst this
    rw [hi] at hj
    cases hj
    rw [hd] at hdj
    cases hdj
    exact absurd rfl htd
theorem fr_same {val : Nat → Value} {a x y : Act} {L L' : Nat → Bool} (hx : Fr ops val a L x) (hy : Fr ops val a L' y) (t : Tmp)
  (h : ∀ j oj, ops[j]? = some oj → oj.dst = some t → L j = L' j) : x.tmps[t]? = y.tmps[t]? := by
 by_cases ht : t < a.tmps.size
 ·by_cases hex : ∃ j oj, ops[j]? = some oj ∧ L j = true ∧ oj.dst = some t
  ·obtain ⟨j, oj, hj, hl, hd⟩ := hex
   rw [(hx.2.2 t ht).1 j oj hj hl hd, (hy.2.2 t ht).1 j oj hj (by rw [← h j oj hj hd]; exact hl) hd]
  ·have hn : ∀ j oj, ops[j]? = some oj → L j = true → oj.dst ≠ some t := fun j oj hj hl hd => hex ⟨j, oj, hj, hl, hd⟩
   rw [(hx.2.2 t ht).2 hn, (hy.2.2 t ht).2 fun j oj hj hl hd => hn j oj hj (by rw [h j oj hj hd]; exact hl) hd]
 ·rw [Array.getElem?_eq_none (by rw [hx.2.1]; exact Nat.le_of_not_lt ht), Array.getElem?_eq_none (by rw [hy.2.1]; exact Nat.le_of_not_lt ht)]
theorem fr_eq {val : Nat → Value} {a x y : Act} {L L' : Nat → Bool} (hx : Fr ops val a L x) (hy : Fr ops val a L' y) (h : ∀ j, j < ops.size → L j = L' j) : x = y := by
 have h1 : x.tmps = y.tmps := Array.ext_getElem? fun t => fr_same hx hy t fun j oj hj _ => h j (lt_of_some hj)
 have h2 : x.defers = y.defers := hx.1.trans hy.1.symm
 cases x; cases y; simp_all
theorem step_same (ok : Ok ops) {val : Nat → Value} {a x y : Act} {L L' : Nat → Bool} {i : Nat} {o : Oper} {v : Value} (hi : ops[i]? = some o) (hx : Fr ops val a L x) (hy : Fr ops val a L' y)
  (h : ∀ j oj t, ops[j]? = some oj → oj.dst = some t → t ∈ o.looksAt ops → L j = L' j) (hs : StepV P ops S x o v) : StepV P ops S y o v := by
 have hev : execOp y.eval o = execOp x.eval o := execOp_congr o (ok.plain i o hi) fun z hz => by
  cases z with
  | tmp t =>
   have := fr_same hx hy t fun j oj hj hd => h j oj t hj hd (List.mem_append_left _ (List.mem_filterMap.2 ⟨.tmp t, by simpa using hz, rfl⟩))
   simp [Act.eval, Array.getD_eq_getD_getElem?, this]
  | _ => rfl
 have hw : Region.wanted o (yielded ops y.tmps) = Region.wanted o (yielded ops x.tmps) := by
  unfold Region.wanted
  cases hg : o.guard with
  | none => rfl
  | some gw =>
   obtain ⟨g, want⟩ := gw
   have : yielded ops y.tmps g = yielded ops x.tmps g := by
    unfold yielded
    cases ht : (ops[g]?).bind (·.dst) with
    | none => rfl
    | some t =>
     have := fr_same hx hy t fun j oj hj hd => h j oj t hj hd (by simp [Oper.looksAt, hg, ht])
     simp [this]
   simp only [this]
 have hsz : y.tmps.size = x.tmps.size := by rw [hx.2.1, hy.2.1]
 rcases hs with ⟨h1, h2⟩ | h1
 ·refine .inl ⟨by rw [hw]; exact h1, fun w hS => ?_⟩
  have := h2 w hS
  unfold Oper.wp at this ⊢
  rw [hev]
  exact upon_same hsz this
 ·exact .inr (by rw [hw]; exact h1)
def cnt (L : Nat → Bool) : Nat → Nat
 | 0 => 0
 | k + 1 => cnt L k + (if L k = true then 0 else 1)
theorem cnt_zero (L : Nat → Bool) : ∀ n, cnt L n = 0 → ∀ i, i < n → L i = true
 | 0, _, i, hi => absurd hi (by omega)
 | n + 1, h, i, hi => by
  simp only [cnt] at h
  by_cases hin : i = n
  ·subst hin
   by_cases hl : L i = true
   ·exact hl
   ·rw [if_neg hl] at h; omega
  ·exact cnt_zero L n (by omega) i (by omega)
theorem cnt_set (L L' : Nat → Bool) (i : Nat) (hi : L i = false) (hL : ∀ j, L' j = (L j || j == i)) : ∀ n, (i < n → cnt L' n + 1 = cnt L n) ∧ (n ≤ i → cnt L' n = cnt L n)
 | 0 => ⟨fun h => absurd h (by omega), fun _ => rfl⟩
 | n + 1 => by
  obtain ⟨h1, h2⟩ := cnt_set L L' i hi hL n
  simp only [cnt, hL n]
  refine ⟨fun h => ?_, fun h => ?_⟩
  ·by_cases hin : i = n
   ·subst hin
    rw [h2 (by omega), hi]
    simp
   ·have := h1 (by omega)
    simp only [show (n == i) = false by simpa using Ne.symm hin, Bool.or_false]
    omega
  ·rw [h2 (by omega)]
   simp only [show (n == i) = false by simp; omega, Bool.or_false]
def waits (ops : Array Oper) : Nat → Nat → Nat → Bool
 | 0, _, _ => false
 | n + 1, j, i => match ops[j]? with
  | none => false
  | some o => o.after.any fun e => Region.binds .any e && (e.on == i || waits ops n e.on i)
def tailOk (ops : Array Oper) (k : Nat) : Bool := (List.range ops.size).all fun j => decide (j < k) || (List.range j).all fun i => waits ops ops.size j i
theorem waits_listed {listed : Array Bool} (hcl : ∀ (i : Nat) (o : Oper), ops[i]? = some o → listed.getD i false = true → ∀ e ∈ o.after, Region.binds .any e = true → listed.getD e.on false = true) :
  ∀ (n j i : Nat), (∀ (o : Oper), ops[j]? = some o → ∀ e ∈ o.after, Region.binds .any e = true → listed.getD e.on false = true) → waits ops n j i = true → listed.getD i false = true
 | 0, j, i, _, h => by simp [waits] at h
 | n + 1, j, i, hj, h => by
  simp only [waits] at h
  split at h
  ·cases h
  ·rename_i o ho
   obtain ⟨e, he, h2⟩ := Array.any_eq_true'.1 h
   simp only [Bool.and_eq_true, Bool.or_eq_true, beq_iff_eq] at h2
   have hl := hj o ho e he h2.1
   rcases h2.2 with h3 | h3
   ·rw [← h3]; exact hl
   ·exact waits_listed hcl n e.on i (fun o' ho' => hcl e.on o' ho' hl) h3
theorem tail_waits {k : Nat} (ht : tailOk ops k = true) {j i : Nat} (hj : j < ops.size) (hk : k ≤ j) (hi : i < j) : waits ops ops.size j i = true := by
 have := List.all_eq_true.1 ht j (List.mem_range.2 hj)
 simp only [Bool.or_eq_true, decide_eq_true_eq] at this
 rcases this with h | h
 ·omega
 ·exact List.all_eq_true.1 h i (List.mem_range.2 hi)
theorem getD_lt {listed : Array Bool} {i : Nat} (h : i < listed.size) (d : Bool) : listed.getD i d = listed.getD i false := by
 simp [Array.getD_eq_getD_getElem?, Array.getElem?_eq_getElem h]
theorem ready_iff {listed : Array Bool} (hsz : listed.size = ops.size) {i : Nat} {o : Oper} (ho : ops[i]? = some o) :
  i ∈ Region.ready .any ops listed ↔ listed.getD i false = false ∧ ∀ e ∈ o.after, Region.binds .any e = true → listed.getD e.on false = true := by
 have hi : i < ops.size := lt_of_some ho
 unfold Region.ready
 rw [List.mem_filter, ho, getD_lt (by omega)]
 simp only [List.mem_range, hi, true_and, Bool.and_eq_true, Bool.not_eq_true', Option.map_some, Option.getD_some]
 rw [Array.all_eq_true_iff_forall_mem]
 refine and_congr Iff.rfl (forall_congr' fun e => forall_congr' fun he => ?_)
 cases Region.binds .any e <;> simp
theorem ready_lt {listed : Array Bool} {i : Nat} (h : i ∈ Region.ready .any ops listed) : i < ops.size := by
 unfold Region.ready at h
 rw [List.mem_filter] at h
 exact List.mem_range.1 h.1
theorem least_ready (ok : Ok ops) {listed : Array Bool} (hsz : listed.size = ops.size) (hr : Region.ready .any ops listed = []) (i : Nat) (hi : i < ops.size) : listed.getD i false = true := by
 induction i using Nat.strongRecOn with
 | ind i ih =>
  cases hl : listed.getD i false with
  | true => rfl
  | false =>
   exfalso
   have ho : ops[i]? = some ops[i] := Array.getElem?_eq_getElem hi
   have hmem := (ready_iff hsz ho).2 ⟨hl, fun e he hbe => by
    have hb := ok.back i _ ho e he hbe
    exact ih e.on hb (by omega)⟩
   rw [hr] at hmem
   cases hmem
theorem set_getD {listed : Array Bool} {i : Nat} (hil : i < listed.size) (j : Nat) : (listed.setIfInBounds i true).getD j false = (listed.getD j false || j == i) := by
 simp only [Array.getD_eq_getD_getElem?, Array.getElem?_setIfInBounds]
 by_cases hij : i = j
 ·subst hij; simp [hil]
 ·simp [hij, Ne.symm hij]
theorem drop_cons {m : Nat} {o : Oper} (ho : ops[m]? = some o) : ops.toList.drop m = o :: ops.toList.drop (m + 1) := by
 have hm : m < ops.toList.length := by simpa using lt_of_some ho
 rw [List.drop_eq_getElem_cons hm]
 congr 1
 have h1 : ops.toList[m]? = some o := by simpa using ho
 rw [List.getElem?_eq_getElem hm] at h1
 exact Option.some.inj h1
theorem any_tail (ok : Ok ops) {k : Nat} (ht : tailOk ops k = true) : ∀ (fuel m : Nat) (listed : Array Bool) (a : Act) (w : World), listed.size = ops.size → (∀ i, i < ops.size → listed.getD i false = decide (i < m)) →
  k ≤ m → m ≤ ops.size → ops.size ≤ fuel + m → wpList P ops Q (ops.toList.drop m) a w → wpAny P .any ops Q fuel listed a w := by
 intro fuel
 induction fuel with
 | zero =>
  intro m listed a w hsz hL hk hm hf h
  obtain rfl : m = ops.size := by omega
  rw [List.drop_eq_nil_of_le (by simp)] at h
  refine ⟨?_, h⟩
  rw [List.eq_nil_iff_forall_not_mem]
  intro i hi
  have hi' := ready_lt hi
  have := ((ready_iff hsz (Array.getElem?_eq_getElem hi')).1 hi).1
  rw [hL i hi'] at this
  simp at this
  omega
 | succ fuel ih =>
  intro m listed a w hsz hL hk hm hf h
  refine ⟨fun hr => ?_, fun i hi => ?_⟩
  ·have hms : m = ops.size := by
    rcases Nat.lt_or_ge m ops.size with h1 | h1
    ·have := least_ready ok hsz hr m h1
     rw [hL m h1] at this
     simp at this
    ·omega
   subst hms
   rw [List.drop_eq_nil_of_le (by simp)] at h
   exact h
  ·have hi' := ready_lt hi
   obtain ⟨h1, h2⟩ := (ready_iff hsz (Array.getElem?_eq_getElem hi')).1 hi
   rw [hL i hi'] at h1
   have hmi : m ≤ i := by simpa using h1
   have him : i = m := by
    rcases Nat.lt_or_ge m i with h3 | h3
    ·exfalso
     have hw := tail_waits ht hi' (by omega) h3
     have hcl : ∀ (j : Nat) (o : Oper), ops[j]? = some o → listed.getD j false = true → ∀ e ∈ o.after, Region.binds .any e = true → listed.getD e.on false = true := fun j o hj hl e he hbe => by
      have hb := ok.back j o hj e he hbe
      have hj' := lt_of_some hj
      rw [hL j hj'] at hl
      rw [hL e.on (by omega)]
      simp at hl ⊢
      omega
     have := waits_listed hcl ops.size i m (fun o ho e he hb => by
      rw [Array.getElem?_eq_getElem hi'] at ho
      cases ho
      exact h2 e he hb) hw
     rw [hL m (by omega)] at this
     simp at this
    ·omega
   subst him
   have ho : ops[i]? = some ops[i] := Array.getElem?_eq_getElem hi'
   rw [drop_cons ho] at h
   have hnext : ∀ a w, wpList P ops Q (ops.toList.drop (i + 1)) a w → wpAny P .any ops Q fuel (listed.setIfInBounds i true) a w := fun a w h' =>
    ih (i + 1) _ a w (by simpa using hsz) (fun j hj => by
     rw [set_getD (by omega), hL j hj, Bool.eq_iff_iff]; simp; omega) (by omega) (by omega) (by omega) h'
   unfold wpOp
   rw [ho]
   simp only
   unfold wpList at h
   split
   ·rename_i hw
    rw [if_pos hw] at h
    exact h.imp (Oper.wp_mono hnext) id
   ·rename_i hw
    rw [if_neg hw] at h
    exact hnext _ _ h
theorem any_det (ok : Ok ops) {k : Nat} (hkn : k ≤ ops.size) (ht : tailOk ops k = true) {val : Nat → Value} {a0 : Act} (hsteps : ∀ i o, i < k → ops[i]? = some o → ∃ x, Fr ops val a0 (fun j => decide (j < i)) x ∧ StepV P ops S x o (val i))
  (hend : ∀ x, Fr ops val a0 (fun j => decide (j < k)) x → ∀ w, S w → wpList P ops Q (ops.toList.drop k) x w) : ∀ (fuel : Nat) (listed : Array Bool) (a : Act) (w : World), listed.size = ops.size →
  cnt (fun i => listed.getD i false) ops.size ≤ fuel → (∀ i o, ops[i]? = some o → listed.getD i false = true → ∀ e ∈ o.after, Region.binds .any e = true → listed.getD e.on false = true) →
  (∀ i, i < ops.size → listed.getD i false = true → i < k) →
  Fr ops val a0 (fun i => listed.getD i false) a → S w → wpAny P .any ops Q fuel listed a w := by
 intro fuel
 induction fuel with
 | zero =>
  intro listed a w hsz hc hcl hlk hf hS
  have hall := cnt_zero _ _ (Nat.le_zero.1 hc)
  have hks : k = ops.size := by
   rcases Nat.lt_or_ge k ops.size with h | h
   ·have := hlk k h (hall k h); omega
   ·omega
  refine any_tail ok ht 0 k listed a w hsz (fun i hi => by rw [hall i hi]; simp; omega) (Nat.le_refl _) hkn (by omega) (hend a (fr_congr hf (fun j hj => ?_) (fun _ _ => rfl)) w hS)
  rw [hall j hj]; simp; omega
 | succ fuel ih =>
  intro listed a w hsz hc hcl hlk hf hS
  by_cases hdone : ∀ i, i < k → listed.getD i false = true
  ·have hL : ∀ i, i < ops.size → listed.getD i false = decide (i < k) := fun i hi => by
    by_cases hik : i < k
    ·rw [hdone i hik]; simp [hik]
    ·have : listed.getD i false ≠ true := fun h => hik (hlk i hi h)
     simp only [Bool.not_eq_true] at this
     rw [this]; simp [hik]
   have hcnt : ops.size ≤ cnt (fun i => listed.getD i false) ops.size + k := by
    have : ∀ n, n ≤ ops.size → n ≤ cnt (fun i => listed.getD i false) n + k := fun n => by
     induction n with
     | zero => intro _; omega
     | succ n ihn =>
      intro hn
      simp only [cnt]
      have := ihn (by omega)
      have hLn := hL n (by omega)
      by_cases hnk : n < k
      ·split <;> omega
      ·rw [if_neg (by rw [hLn]; simp [hnk])]
       omega
    exact this _ (Nat.le_refl _)
   exact any_tail ok ht (fuel + 1) k listed a w hsz hL (Nat.le_refl _) hkn (by omega) (hend a (fr_congr hf (fun j hj => (hL j hj).symm) (fun _ _ => rfl)) w hS)
  refine ⟨fun hr => absurd (fun i hi => least_ready ok hsz hr i (by omega)) hdone, fun i hi => ?_⟩
  have hin : i < ops.size := ready_lt hi
  have hil : i < listed.size := by omega
  obtain ⟨o, ho⟩ : ∃ o, ops[i]? = some o := ⟨_, Array.getElem?_eq_getElem hin⟩
  obtain ⟨hlf, hdeps⟩ := (ready_iff hsz ho).1 hi
  have hik : i < k := by
   rcases Nat.lt_or_ge i k with h | h
   ·exact h
   ·exfalso
    refine hdone fun j hj => ?_
    have hw := tail_waits ht hin h (show j < i by omega)
    exact waits_listed hcl ops.size i j (fun o' ho' e he hb => by
     rw [ho] at ho'
     cases ho'
     exact hdeps e he hb) hw
  have hset : ∀ j, (listed.setIfInBounds i true).getD j false = (listed.getD j false || j == i) := fun j => set_getD hil j
  obtain ⟨x, hfx, hsx⟩ := hsteps i o hik ho
  have hst : StepV P ops S a o (val i) := step_same ok ho hfx hf (fun j oj t hj hd ht => by
   rcases ok.reads i o j oj t ho hj hd ht with ⟨e, he, hb, rfl⟩ | ⟨hne, e, he, hb, hei⟩
   ·rw [hdeps e he hb]
    simpa using ok.back i o ho e he hb
   ·have hlt : i < j := hei ▸ ok.back j oj hj e he hb
    have : listed.getD j false = false := by
     cases hlj : listed.getD j false with
     | false => rfl
     | true =>
      have := hcl j oj hj hlj e he hb
      rw [hei, hlf] at this
      cases this
    rw [this]
    simp; omega) hsx
  have hnext : ∀ w', S w' → wpAny P .any ops Q fuel (listed.setIfInBounds i true) (a.put o.dst (val i)) w' := fun w' hS' => by
   refine ih _ _ _ (by simpa using hsz) ?_ ?_ ?_ ?_ hS'
   ·have := (cnt_set (fun j => listed.getD j false) (fun j => (listed.setIfInBounds i true).getD j false) i hlf hset ops.size).1 hin
    omega
   ·intro j oj hj hlj e he hb
    rw [hset] at hlj ⊢
    rcases Bool.or_eq_true .. ▸ hlj with h | h
    ·rw [hcl j oj hj h e he hb]; rfl
    ·have : j = i := by simpa using h
     subst this
     rw [ho] at hj
     cases hj
     rw [hdeps e he hb]; rfl
   ·intro j hj hlj
    rw [hset] at hlj
    rcases Bool.or_eq_true .. ▸ hlj with h | h
    ·exact hlk j hj h
    ·have : j = i := by simpa using h
     omega
   ·exact fr_put ok ho hf fun j _ => hset j
  unfold wpOp
  rw [ho]
  simp only
  rcases hst with ⟨hw, hrun⟩ | ⟨hw, hv⟩
  ·rw [if_pos hw]
   refine .inl ?_
   have := hrun w hS
   unfold Oper.wp at this ⊢
   exact upon_imp (fun a' w' ⟨ha', hS'⟩ => ha' ▸ hnext w' hS') this
  ·rw [if_neg (by rw [hw]; simp)]
   rw [← hv]
   exact hnext w hS
def SeqW (P : Program) (ops : Array Oper) (S : World → Prop) (d : List Deferred) (R : Array Value → Prop) : List Oper → Array Value → Prop
 | [], t => R t
 | o :: rest, t => ∃ t' : Array Value, (∀ w, S w → wpList P ops (fun e a' w' => e = .normal ∧ a' = { tmps := t', defers := d } ∧ S w') [o] { tmps := t, defers := d } w) ∧ SeqW P ops S d R rest t'
def putVal (dst : Option Tmp) (t : Array Value) : Value := match dst with | none => undef | some d => t.getD d undef
theorem put_putVal {t F : Array Value} {d : List Deferred} {dst : Option Tmp} {u : Value} (h : ({ tmps := t, defers := d } : Act).put dst u = { tmps := F, defers := d }) :
  ({ tmps := F, defers := d } : Act) = ({ tmps := t, defers := d } : Act).put dst (putVal dst F) := by
 cases dst with
 | none => exact h.symm
 | some x =>
  simp only [Act.put, Act.mk.injEq, and_true] at h ⊢
  subst h
  by_cases hd : x < t.size
  ·simp [putVal, Array.getD_eq_getD_getElem?, hd]
  ·have hd' : t.size ≤ x := Nat.le_of_not_lt hd
   rw [Array.setIfInBounds_eq_of_size_le hd', Array.setIfInBounds_eq_of_size_le hd']
theorem upon_some {o : Oper} {t F : Array Value} {d : List Deferred} {r : Result Next} (h : o.upon P { tmps := t, defers := d } (fun a' w' => a' = { tmps := F, defers := d } ∧ S w') NoOut r) :
  ({ tmps := F, defers := d } : Act) = ({ tmps := t, defers := d } : Act).put o.dst (putVal o.dst F) := by
 cases r with
 | ok n w' =>
  cases n <;> simp only [Oper.upon] at h <;>
   first
    | exact put_putVal h.1
    | (obtain ⟨e, w'', fr, he, _⟩ := h []
       cases e <;> first | exact put_putVal he.1 | exact he.elim | exact (noOut_lets he).elim)
    | (obtain ⟨v, w'', hv, _⟩ := h (Frame.enter P 0 #[] .normal) []
       exact put_putVal hv.1)
    | skip
  rename_i x
  exfalso
  have := congrArg (fun a : Act => a.defers.length) h.1
  cases hd : o.dst <;> simp [hd, Act.put] at this
 | halt x w' => cases x <;> simp only [Oper.upon] at h <;> exact h.elim
theorem wpList_one {o : Oper} {t F : Array Value} {d : List Deferred} {w : World} (h : wpList P ops (fun e a' w' => e = .normal ∧ a' = { tmps := F, defers := d } ∧ S w') [o] { tmps := t, defers := d } w) :
  (Region.wanted o (yielded ops t) = true ∧ o.wp P { tmps := t, defers := d } w (fun a' w' => a' = { tmps := F, defers := d } ∧ S w') NoOut) ∨
  (Region.wanted o (yielded ops t) = false ∧ ({ tmps := t, defers := d } : Act).put o.dst undef = { tmps := F, defers := d }) := by
 unfold wpList at h
 split at h
 ·rename_i hw
  refine .inl ⟨hw, ?_⟩
  rcases h with h | h
  ·unfold Oper.wp at h ⊢
   generalize (execOp ({ tmps := t, defers := d } : Act).eval o).run P w = r at *
   cases r with
   | ok n w' =>
    cases n <;> simp only [Oper.upon, wpList] at h ⊢ <;>
     first
      | exact h.2
      | exact Calls.mono h (fun e w'' he => by cases e <;> first | exact he.2 | exact absurd he.1 (by simp) | (obtain ⟨_, _, h1, _⟩ := he; exact absurd h1 (by simp)))
      | exact Rows.mono h (fun _ _ he => he.2)
   | halt x w' => cases x <;> simp only [Oper.upon] at h ⊢ <;> first | exact h.elim | exact absurd h.1 (by simp)
  ·obtain ⟨_, _, _, h1, _⟩ := h
   exact absurd h1 (by simp)
 ·rename_i hw
  simp only [wpList] at h
  exact .inr ⟨by simpa using hw, h.2.1⟩
theorem seqL_of_W {d : List Deferred} {R : Array Value → Prop} {w0 : World} (h0 : S w0) : ∀ (l : List Oper) (t : Array Value), SeqW P ops S d R l t → SeqL P ops S (fun a => ∃ t, a = { tmps := t, defers := d } ∧ R t) l { tmps := t, defers := d }
 | [], t, h => ⟨t, rfl, h⟩
 | o :: rest, t, h => by
  obtain ⟨F, hF, hr⟩ := h
  have hr' := seqL_of_W h0 rest F hr
  have h1 := wpList_one (hF w0 h0)
  cases hw : Region.wanted o (yielded ops t) with
  | true =>
   rw [hw] at h1
   rcases h1 with ⟨_, h1⟩ | ⟨h1, _⟩
   ·have e := upon_some h1
    refine ⟨putVal o.dst F, .inl ⟨hw, fun w hS => ?_⟩, e ▸ hr'⟩
    rcases wpList_one (hF w hS) with ⟨_, h2⟩ | ⟨h2, _⟩
    ·rw [e] at h2; exact h2
    ·rw [hw] at h2; cases h2
   ·cases h1
  | false =>
   rw [hw] at h1
   rcases h1 with ⟨h1, _⟩ | ⟨_, h1⟩
   ·cases h1
   ·exact ⟨undef, .inr ⟨hw, rfl⟩, h1 ▸ hr'⟩
theorem seq_split (ok : Ok ops) {a0 : Act} {R : Act → Prop} : ∀ (l : List Oper) (i : Nat) (val0 : Nat → Value) (a : Act), (∀ j o, l[j]? = some o → ops[i + j]? = some o) → Fr ops val0 a0 (fun j => decide (j < i)) a → SeqL P ops S R l a →
  ∃ val : Nat → Value, (∀ j, j < i → val j = val0 j) ∧ (∀ k o, i ≤ k → k < i + l.length → ops[k]? = some o → ∃ x, Fr ops val a0 (fun j => decide (j < k)) x ∧ StepV P ops S x o (val k)) ∧
   ∃ x, Fr ops val a0 (fun j => decide (j < i + l.length)) x ∧ R x
 | [], i, val0, a, hl, hf, h => ⟨val0, fun _ _ => rfl, fun k o hk ho => absurd ho (by simp; omega), a, hf, h⟩
 | o :: rest, i, val0, a, hl, hf, h => by
  obtain ⟨v, hs, hrest⟩ := h
  have hi : ops[i]? = some o := hl 0 o (by simp)
  let val1 : Nat → Value := fun j => if j = i then v else val0 j
  have hf1 : Fr ops val1 a0 (fun j => decide (j < i)) a := fr_congr hf (fun _ _ => rfl) (fun j hj => by
   have : j < i := by simpa using hj
   show (if j = i then v else val0 j) = _
   rw [if_neg (by omega)])
  have hv1 : val1 i = v := if_pos rfl
  have hf2 : Fr ops val1 a0 (fun j => decide (j < i + 1)) (a.put o.dst v) := by
   rw [← hv1]
   exact fr_put ok hi hf1 fun j _ => by
    rw [Bool.eq_iff_iff]; simp; omega
  obtain ⟨val, hv, hsteps, hend⟩ := seq_split ok rest (i + 1) val1 (a.put o.dst v) (fun j o' hj => by
   have := hl (j + 1) o' (by simpa using hj)
   rw [show i + 1 + j = i + (j + 1) by omega]; exact this) hf2 hrest
  refine ⟨val, fun j hj => ?_, fun k ok' hk hkl hko => ?_, ?_⟩
  ·rw [hv j (by omega)]
   show (if j = i then v else val0 j) = _
   rw [if_neg (by omega)]
  ·by_cases hki : k = i
   ·subst hki
    rw [hi] at hko
    cases hko
    refine ⟨a, fr_congr hf1 (fun _ _ => rfl) (fun j hj => hv j (Nat.lt_succ_of_lt (by simpa using hj))), ?_⟩
    rw [hv k (by omega), hv1]
    exact hs
   ·exact hsteps k ok' (by omega) (by simp only [List.length_cons] at hkl; omega) hko
  ·rw [show i + (o :: rest).length = i + 1 + rest.length by simp only [List.length_cons]; omega]
   exact hend
theorem rep_false (n i : Nat) : (Array.replicate n false).getD i false = false := by
 rw [Array.getD_eq_getD_getElem?, Array.getElem?_replicate]
 split <;> rfl
theorem region_det {id : Nat} {l : List Oper} {t : Array Value} {d : List Deferred} {w : World} (S : World → Prop) (k : Nat) (hm : P.follows .mixedOrders = true) (hok : okOps l.toArray = true) (ht : tailOk l.toArray k = true) (hk : k ≤ l.length) (hS : S w.drew)
  (h : SeqW P l.toArray S d (fun t' => ∀ w', S w' → wpList P l.toArray Q (l.drop k) { tmps := t', defers := d } w') (l.take k) t) : (Code.region id l.toArray true).wp P Q { tmps := t, defers := d } w := by
 have ok := okOps_spec hok
 have hlen : l.toArray.size = l.length := by simp
 refine wp_region_any hm ?_
 obtain ⟨val, _, hsteps, x, hfx, t', rfl, hR⟩ := seq_split ok (l.take k) 0 (fun _ => undef) { tmps := t, defers := d } (fun j o hj => by
  rw [List.getElem?_take] at hj
  split at hj
  ·simpa using hj
  ·cases hj) (fr_start _ _ _ fun i _ => by simp) (seqL_of_W hS _ _ h)
 have hlk : 0 + (l.take k).length = k := by rw [List.length_take]; omega
 rw [hlk] at hsteps hfx
 refine any_det ok (k := k) (by omega) ht (val := val) (fun i o hi ho => hsteps i o (Nat.zero_le _) hi ho) (fun y hy w' hS' => ?_) _ _ _ _ (by simp) ?_ ?_ ?_ ?_ hS
 ·rw [fr_eq hy hfx fun _ _ => rfl]
  exact hR w' hS'
 ·have : ∀ (L : Nat → Bool) n, cnt L n ≤ n := fun L n => by
   induction n with
   | zero => exact Nat.le_refl _
   | succ n ih => simp only [cnt]; split <;> omega
  exact this _ _
 ·intro i o hi hl
  rw [rep_false] at hl
  cases hl
 ·intro i hi hl
  rw [rep_false] at hl
  cases hl
 ·exact fr_start _ _ _ fun i hi => rep_false _ i
def AtEnd (S : World → Prop) (d : List Deferred) (t' : Array Value) : Exit → Act → World → Prop := fun e a' w' => e = .normal ∧ a' = { tmps := t', defers := d } ∧ S w'
theorem AtEnd.mk {d : List Deferred} {t' : Array Value} {w : World} (h : S w) : AtEnd S d t' .normal { tmps := t', defers := d } w := ⟨rfl, rfl, h⟩
theorem seqW_cons {d : List Deferred} {R : Array Value → Prop} {o : Oper} {rest : List Oper} {t t' : Array Value} (h : ∀ w, S w → wpList P ops (AtEnd S d t') [o] { tmps := t, defers := d } w)
  (hr : SeqW P ops S d R rest t') : SeqW P ops S d R (o :: rest) t := ⟨t', h, hr⟩
theorem seqW_nil {d : List Deferred} {R : Array Value → Prop} {t : Array Value} (h : R t) : SeqW P ops S d R [] t := h
theorem region_all {id : Nat} {l : List Oper} {t : Array Value} {d : List Deferred} {w : World} (S : World → Prop) (hm : P.follows .mixedOrders = true) (hok : okOps l.toArray = true) (hS : S w.drew)
  (h : SeqW P l.toArray S d (fun t' => ∀ w', S w' → Q .normal { tmps := t', defers := d } w') l t) : (Code.region id l.toArray true).wp P Q { tmps := t, defers := d } w := by
 have ht : tailOk l.toArray l.length = true := by
  unfold tailOk
  rw [List.all_eq_true]
  intro j hj
  have : j < l.length := by simpa using hj
  simp [this]
 refine region_det S l.length hm hok ht (Nat.le_refl _) hS ?_
 rw [List.take_of_length_le (Nat.le_refl _), List.drop_of_length_le (Nat.le_refl _)]
 exact h
end Go.Det
namespace Go.Det
open Go Go.RowKit
theorem sl_strh {P : Program} {t : TypeId} (h : P.underlying t = some .string) (s : ByteArray) (j : Nat) (hj : j ≤ s.size) (w : World) :
  (Instr.slice t (.string s) none (some (.int .i64 (j : Int))) none).run P w = .ok (.string (s.extract 0 j)) w := by
 simp [Instr.slice, Instr.sliceBounds, Instr.sliceBound, asIntOf, run_underlying h, hj]
theorem sl_strl {P : Program} {t : TypeId} (h : P.underlying t = some .string) (s : ByteArray) (i : Nat) (hi : i ≤ s.size) (w : World) :
  (Instr.slice t (.string s) (some (.int .i64 (i : Int))) none none).run P w = .ok (.string (s.extract i s.size)) w := by
 simp [Instr.slice, Instr.sliceBounds, Instr.sliceBound, asIntOf, run_underlying h, hi]
theorem below_setRow {B : Nat} {w W : World} (h : Below B w W) {g : Nat} (hg : B ≤ g) (cs : Array Value) : Below B w (W.setRow g cs) :=
 h.trans ⟨rfl, rfl, rfl, by simp [World.setRow], fun k hk => by simp only [World.setRow, Array.getElem?_modify]; rw [if_neg (by omega)]⟩
end Go.Det
namespace Go.Proofs.Ythcmfjpheanphaa.Pr
open Go.RowKit Go.Proofs.YthcmfjpheanphaaW.PrintWords
def namesL : List ByteArray := [⟨#[104, 49]⟩, ⟨#[104, 50]⟩, ⟨#[104, 51]⟩, ⟨#[112]⟩, ⟨#[108]⟩, ⟨#[105]⟩, ⟨#[116]⟩, ⟨#[114]⟩, ⟨#[99]⟩, ⟨#[110]⟩, ⟨#[101]⟩, ⟨#[115]⟩, ⟨#[107]⟩]
set_option maxHeartbeats 1000000 in
theorem names_calls (w : World) : Calls Try.prog 85 #[] w fun e w' => e = .returned (.slice (some ⟨w.heap.size, 0, none⟩) 13 13) ∧ w' = w.alloc (.cells (namesL.map Value.string).toArray 9) := by
 go_enter Try.func85, Try.ntmps85
 go_wp2
 go_ret
 exact ⟨rfl, rfl⟩
theorem names_cell {w W : World} (h : Below (w.alloc (.cells (namesL.map Value.string).toArray 9)).heap.size (w.alloc (.cells (namesL.map Value.string).toArray 9)) W) (j : Nat) (x : ByteArray) (hx : namesL[j]? = some x) :
  W.cell? ⟨w.heap.size, j, none⟩ = some (.string x) := by
 rw [h.cell (p := ⟨w.heap.size, j, none⟩) (by simp)]
 rw [blk_cell (blk_new w (.cells (namesL.map Value.string).toArray 9)) j]
 simp [hx]
def letP (n : ByteArray) : Int := bt n ((n.size : Int) - 1)
set_option maxHeartbeats 1000000 in
theorem letter_calls (n : ByteArray) (h : 0 < n.size) (hn : n.size ≤ 1000000) (w : World) : Calls Try.prog 88 #[.string n] w fun e w' => e = .returned (.int .u8 (letP n)) ∧ w = w' := by
 have h1 : (0 : Int) ≤ (n.size : Int) - 1 := by omega
 have h2 : (n.size : Int) - 1 < n.size := by omega
 have h3 : n.size - 1 < n.size := by omega
 have e1 : (n.size : Int) - 1 = ((n.size - 1 : Nat) : Int) := by omega
 have hg : ((n[n.size - 1].toNat : Nat) : Int) = letP n := by
  unfold letP
  rw [e1]
  exact bt_at n ((n.size - 1 : Nat) : Int) (by simpa using h3)
 have hix : ∀ W, (Instr.index 9 (.string n) (.int .i64 ((n.size : Int) - 1))).run Try.prog W = .ok (.int .u8 (letP n)) W := fun W => by
  rw [← hg, e1]
  go_simp
 generalize letP n = y at *
 clear hg e1
 go_enter Try.func88, Try.ntmps88
 go_wp2
 go_ret
 exact ⟨rfl, rfl⟩
def idxP (p : ByteArray → Bool) : List ByteArray → Int → Int
 | [], _ => -1
 | x :: xs, i => if p x then i else idxP p xs (i + 1)
theorem indexFunc_calls (g : Nat) (lb : Array Value) (eg : ∀ args w, (callFunc g args).run Try.prog w = .ok (.enter g args) w) (p : ByteArray → Bool) (xs : List ByteArray) (blk c : Nat) (w : World) (hx : xs.length ≤ 1000000)
  (hcell : ∀ W, Below w.heap.size w W → ∀ (j : Nat) x, xs[j]? = some x → W.cell? ⟨blk, j, none⟩ = some (.string x))
  (hg : ∀ x ∈ xs, ∀ W, Below w.heap.size w W → Calls Try.prog g (#[.string x] ++ lb) W fun e w' => e = .returned (.bool (p x)) ∧ Below W.heap.size W w') :
  Calls Try.prog 86 #[.slice (some ⟨blk, 0, none⟩) xs.length c, .func (.func g) #[] lb] w fun e w' => e = .returned (.int .i64 (idxP p xs 0)) ∧ Below w.heap.size w w' := by
 have HC := Lib.hid hcell
 have HG := Lib.hid hg
 clear hcell hg
 obtain ⟨n, hn⟩ : ∃ n, xs.length = n := ⟨_, rfl⟩
 rw [hn] at hx ⊢
 have HN := Lib.hid hn
 clear hn
 go_enter Try.func86, Try.ntmps86
 go_wp2
 go_loopw [8] (fun v wr => ∃ (k : Nat) (rest : List ByteArray), xs.drop k = rest ∧ Hid (idxP p xs 0 = idxP p rest k) ∧ v = .int .i64 k ∧ k ≤ n ∧ Below w.heap.size w wr) (fun v _ => n - (intOf v).toNat)
 case atStart => exact ⟨0, xs, rfl, Lib.hid rfl, rfl, by omega, Below.refl _ _⟩
 case round =>
  obtain ⟨k, rest, hr, H, rfl, hk, hB⟩ := hrel
  by_cases hlt : k < n
  ·have hl2 : (k : Int) < (n : Int) := by omega
   obtain ⟨x, rest, rfl⟩ : ∃ x r, rest = x :: r := by
    cases rest with
    | nil =>
     have := congrArg List.length hr
     simp at this
     have := HN.out
     omega
    | cons x r => exact ⟨x, r, rfl⟩
   have hxk : xs[k]? = some x := by
    have := congrArg (fun l => l[0]?) hr
    simpa using this
   have hr' : xs.drop (k + 1) = rest := by
    have := congrArg List.tail hr
    simpa using this
   have HR := Lib.hid hr'
   have hcc := HC.out wr hB k x hxk
   have hcall := HG.out x (List.mem_of_getElem? hxk) wr hB
   clear hr hr' hxk
   cases hp : p x with
   | true =>
    rw [hp] at hcall
    have hi : idxP p xs 0 = k := by rw [H.out]; simp [idxP, hp]
    have HI := Lib.hid hi
    clear hi hp H
    go_wp2_with (go_at_fn g; refine hcall.mono ?_; rintro e w' ⟨rfl, hb'⟩)
    go_ret
    exact ⟨by rw [HI.out]; rfl, hB.trans (hb'.mono hB.size)⟩
   | false =>
    rw [hp] at hcall
    have hi : idxP p xs 0 = idxP p rest ((k + 1 : Nat) : Int) := by rw [H.out]; simp [idxP, hp]
    have HI := Lib.hid hi
    clear hi hp H
    go_wp2_with (go_at_fn g; refine hcall.mono ?_; rintro e w' ⟨rfl, hb'⟩)
    go_roundw
    case rel => exact ⟨k + 1, rest, HR.out, HI, by go_num, by omega, hB.trans (hb'.mono hB.size)⟩
    case measure => simp [intOf]; omega
  ·have hk2 : ¬ (k : Int) < (n : Int) := by omega
   have hnil : rest = [] := by
    rw [← hr]; apply List.drop_eq_nil_of_le; have := HN.out; omega
   subst hnil
   have hi : idxP p xs 0 = -1 := H.out
   have HI := Lib.hid hi
   clear hi hr H
   go_wp2
   go_ret
   exact ⟨by rw [HI.out]; rfl, hB⟩
theorem idxP_spec (p : ByteArray → Bool) : ∀ (xs : List ByteArray) (i : Int), (idxP p xs i = -1 ∧ xs.find? p = none) ∨ ∃ (j : Nat) (x : ByteArray), xs[j]? = some x ∧ idxP p xs i = i + j ∧ xs.find? p = some x ∧ p x = true
 | [], i => .inl ⟨rfl, rfl⟩
 | x :: xs, i => by
  cases hp : p x with
  | true => exact .inr ⟨0, x, rfl, by simp [idxP, hp], by simp [hp], hp⟩
  | false =>
   rcases idxP_spec p xs (i + 1) with ⟨h1, h2⟩ | ⟨j, y, h1, h2, h3, h4⟩
   ·exact .inl ⟨by simp [idxP, hp, h1], by simp [hp, h2]⟩
   ·exact .inr ⟨j + 1, y, by simpa using h1, by simp [idxP, hp, h2]; omega, by simp [hp, h3], h4⟩
theorem names_sizes : ∀ x ∈ namesL, 0 < x.size ∧ x.size ≤ 2 := by decide +kernel
def nameP (c : Int) : ByteArray := ((namesL.find? fun n => letP n == c)).getD ⟨#[]⟩
def lex_Name.f (a0 : Int) : Option ByteArray := some (nameP a0)
def prefP (t n : ByteArray) : Bool := if n.size ≤ t.size then (t.extract 0 n.size).toList == n.toList else false
set_option maxHeartbeats 1000000 in
theorem pref1_calls (t n : ByteArray) (ht : t.size ≤ 140737488355328) (hn : n.size ≤ 140737488355328) (w : World) : Calls Try.prog 106 #[.string t, .string n] w fun e w' => e = .returned (.bool (prefP t n)) ∧ w = w' := by
 unfold prefP
 by_cases h : n.size ≤ t.size
 ·rw [if_pos h]
  have h1 : decide ((n.size : Int) ≤ (t.size : Int)) = true := by simpa using h
  have h2 : (n.size : Int) ≤ (t.size : Int) := by omega
  have h3 : (0 : Int) ≤ (n.size : Int) := by omega
  go_enter Try.func106, Try.ntmps106
  go_wp2
  go_ret
  exact ⟨rfl, rfl⟩
 ·rw [if_neg h]
  have h1 : decide ((n.size : Int) ≤ (t.size : Int)) = false := by simp; omega
  go_enter Try.func106, Try.ntmps106
  go_wp2
  go_ret
  exact ⟨rfl, rfl⟩
theorem pref_calls (t n : ByteArray) (ht : t.size ≤ 140737488355328) (hn : n.size ≤ 140737488355328) (w : World) : Calls Try.prog 58 #[.string t, .string n] w fun e w' => e = .returned (.bool (prefP t n)) ∧ w = w' := by
 have h := fun w => pref1_calls t n ht hn w
 have H := Lib.hid h
 clear h
 go_enter Try.func58, Try.ntmps58
 go_wp2_with (go_at_call 106; refine (H.out _).mono ?_; rintro e w' ⟨rfl, rfl⟩)
 go_ret
 exact ⟨rfl, rfl⟩
theorem open1_calls (n s : ByteArray) (hn : n.size ≤ 1000000) (hs : s.size ≤ 1000000) (h1 : 1 ≤ s.size) (B : Nat) (W : World) (hc : W.cell? ⟨B, 0, none⟩ = some (.string s)) :
  Calls Try.prog 168 #[.string n, .pointer (some ⟨B, 0, none⟩)] W fun e w' => e = .returned (.bool (prefP (s.extract 1 s.size) n)) ∧ Below W.heap.size W w' := by
 have h := fun w => pref_calls (s.extract 1 s.size) n (by rw [ByteArray.size_extract]; omega) (by omega) w
 have H := Lib.hid h
 clear h
 have hsl : ∀ W, (Instr.slice 9 (.string s) (some (.int .i64 1)) none none).run Try.prog W = .ok (.string (s.extract 1 s.size)) W := fun W => by
  have h2 : (1 : Int) ≤ (s.size : Int) := by omega
  simp [Instr.slice, Instr.sliceBounds, Instr.sliceBound, asIntOf, run_underlying Try.underlying9, h2, h1]
 go_enter Try.func168, Try.ntmps168
 go_wp2_with (go_at_call 58; refine (H.out _).mono ?_; rintro e w' ⟨rfl, rfl⟩)
 go_ret
 exact ⟨rfl, Below.refl _ _⟩
def whiteP (c : Int) : Bool := c == 32 || c == 10
theorem white_fin : ∀ n : Fin 256, chars_White.f (n.val : Int) = some (whiteP (n.val : Int)) ∧ chars_Is.f (n.val : Int) = some (!(classP (n.val : Int) == 0) && !(classP (n.val : Int) == 6)) := by decide +kernel
def plainP (c : Int) : Bool := (!(classP c == 0) && !(classP c == 6)) || whiteP c
theorem white_at (c : Int) (h0 : 0 ≤ c) (h1 : c ≤ 255) : chars_White.f c = some (whiteP c) ∧ chars_Is.f c = some (!(classP c == 0) && !(classP c == 6)) := by
 have := white_fin ⟨c.toNat, by omega⟩
 simpa only [Int.toNat_of_nonneg h0] using this
theorem white_calls (c : Int) (h0 : 0 ≤ c) (h1 : c ≤ 255) (w : World) : Calls Try.prog 35 #[.int .u8 c] w fun e w' => e = .returned (.bool (whiteP c)) ∧ Below w.heap.size w w' :=
 (chars_White.calls c _ w (white_at c h0 h1).1).mono fun _ _ ⟨he, hd⟩ => ⟨he, hd.below⟩
theorem plain_calls (c : Int) (h0 : 0 ≤ c) (h1 : c ≤ 255) (w : World) : Calls Try.prog 161 #[.int .u8 c] w fun e w' => e = .returned (.bool (plainP c)) ∧ Below w.heap.size w w' := by
 have hi := (white_at c h0 h1).2
 have hw := fun w => white_calls c h0 h1 w
 unfold plainP
 generalize (!(classP c == 0) && !(classP c == 6)) = b1 at *
 generalize whiteP c = b2 at *
 have HI := Lib.hid hi
 have HW := Lib.hid hw
 clear hi hw
 cases b1
 ·go_enter Try.func161, Try.ntmps161
  go_wp2_with (first | (go_at_call 33; refine (chars_Is.calls c _ _ HI.out).mono ?_; rintro e w1 ⟨rfl, hb⟩) | (go_at_call 35; refine (HW.out _).mono ?_; rintro e w2 ⟨rfl, hb2⟩))
  go_ret
  exact ⟨by simp, hb.trans (hb2.mono hb.size)⟩
 ·go_enter Try.func161, Try.ntmps161
  go_wp2_with (first | (go_at_call 33; refine (chars_Is.calls c _ _ HI.out).mono ?_; rintro e w1 ⟨rfl, hb⟩) | (go_at_call 35; refine (HW.out _).mono ?_; rintro e w2 ⟨rfl, hb2⟩))
  go_ret
  exact ⟨by simp, hb⟩
def openN (s : ByteArray) : Option ByteArray := namesL.find? fun n => prefP (s.extract 1 s.size) n
structure Spot where
 l : S47
 size : Int
 e : Int
def openP (s : ByteArray) (at_ : Int) : Spot :=
 match openN s with
 | none => ⟨⟨0, 0, ⟨#[]⟩, 0⟩, 0, 2⟩
 | some x => ⟨⟨2, letP x, ⟨#[]⟩, at_⟩, (if x.size + 1 < s.size ∧ whiteP (bt s ((x.size + 1 : Nat) : Int)) = true then x.size + 2 else x.size + 1), 0⟩
def encSpot (x : Spot) : Value := .agg #[.int .i64 x.l.f0, .int .u8 x.l.f1, .string x.l.f2, .int .i64 x.l.f3, .int .i64 x.size, .int .i64 x.e]
set_option pp.maxSteps 3000 in
set_option maxRecDepth 100000 in
set_option maxHeartbeats 4000000 in
theorem opening_calls (s : ByteArray) (at_ : Int) (h1 : 1 ≤ s.size) (hs : s.size ≤ 1000000) (w : World) :
  Calls Try.prog 160 #[.string s, .int .i64 at_] w fun e w' => e = .returned (encSpot (openP s at_)) ∧ Below w.heap.size w w' := by
 have hB0 : Below w.heap.size w (((w.alloc (.cells #[.string s] 9)).alloc (.cells #[.int .i64 0, .int .u8 0, .string ⟨#[]⟩, .int .i64 0, .int .i64 0, .int .i64 0] 87)).alloc (.cells (namesL.map Value.string).toArray 9)) := (((Below.refl _ w).alloc (Nat.le_refl _) _).alloc (by simp) _).alloc (by simp; omega) _
 have hbox : ∀ W, Below (((w.alloc (.cells #[.string s] 9)).alloc (.cells #[.int .i64 0, .int .u8 0, .string ⟨#[]⟩, .int .i64 0, .int .i64 0, .int .i64 0] 87)).alloc (.cells (namesL.map Value.string).toArray 9)).heap.size (((w.alloc (.cells #[.string s] 9)).alloc (.cells #[.int .i64 0, .int .u8 0, .string ⟨#[]⟩, .int .i64 0, .int .i64 0, .int .i64 0] 87)).alloc (.cells (namesL.map Value.string).toArray 9)) W → W.cell? ⟨w.heap.size, 0, none⟩ = some (.string s) := fun W hW =>
  (hW.cell (p := ⟨w.heap.size, 0, none⟩) (by simp; omega)).trans (by
   rw [blk_cell (blk_alloc (blk_alloc (blk_new w (.cells #[.string s] 9)) _) _) 0]; rfl)
 have hblk : ∀ W, Below (((w.alloc (.cells #[.string s] 9)).alloc (.cells #[.int .i64 0, .int .u8 0, .string ⟨#[]⟩, .int .i64 0, .int .i64 0, .int .i64 0] 87)).alloc (.cells (namesL.map Value.string).toArray 9)).heap.size (((w.alloc (.cells #[.string s] 9)).alloc (.cells #[.int .i64 0, .int .u8 0, .string ⟨#[]⟩, .int .i64 0, .int .i64 0, .int .i64 0] 87)).alloc (.cells (namesL.map Value.string).toArray 9)) W → W.heap[w.heap.size + 1]? = some (.cells #[.int .i64 0, .int .u8 0, .string ⟨#[]⟩, .int .i64 0, .int .i64 0, .int .i64 0] 87 (0, 0)) := fun W hW =>
  (hW.block (w.heap.size + 1) (by simp)).trans (by
   have := blk_alloc (blk_new (w.alloc (.cells #[.string s] 9)) (.cells #[.int .i64 0, .int .u8 0, .string ⟨#[]⟩, .int .i64 0, .int .i64 0, .int .i64 0] 87)) (.cells (namesL.map Value.string).toArray 9)
   simpa using this)
 have hfn := indexFunc_calls 168 #[.pointer (some ⟨w.heap.size, 0, none⟩)] (enters_of Try.func168 (by kernel_rfl) rfl) (fun n => prefP (s.extract 1 s.size) n) namesL (w.heap.size + 1 + 1) 13 (((w.alloc (.cells #[.string s] 9)).alloc (.cells #[.int .i64 0, .int .u8 0, .string ⟨#[]⟩, .int .i64 0, .int .i64 0, .int .i64 0] 87)).alloc (.cells (namesL.map Value.string).toArray 9)) (by decide)
  (fun W hW j x hx => by have := names_cell hW j x hx; simpa using this)
  (fun x hx W hW => open1_calls x s (by have := (names_sizes x hx).2; omega) hs h1 w.heap.size W (hbox W hW))
 have hcell := fun W hW j x hx => names_cell (w := (w.alloc (.cells #[.string s] 9)).alloc (.cells #[.int .i64 0, .int .u8 0, .string ⟨#[]⟩, .int .i64 0, .int .i64 0, .int .i64 0] 87)) (W := W) hW j x hx
 have HC := Lib.hid hcell
 have HF := Lib.hid hfn
 have HX := Lib.hid hbox
 have HK := Lib.hid hblk
 clear hfn hcell hbox hblk
 have hlen : namesL.length = 13 := rfl
 have hspec := idxP_spec (fun n => prefP (s.extract 1 s.size) n) namesL 0
 unfold openP openN
 rcases hspec with ⟨g1, g2⟩ | ⟨j, x, g1, g2, g3, _⟩
 ·have H1 := Lib.hid g1
  rw [g2]
  clear g1 g2
  go_enter Try.func160, Try.ntmps160
  go_wp2_with (first | (go_at_call 85; refine (names_calls _).mono ?_; rintro e w' ⟨rfl, rfl⟩) | (go_at_call 86; refine HF.out.mono ?_; rintro e w' ⟨rfl, hb⟩; rw [H1.out]) | (refine wpList_store_row rfl 87 (.tmp 4) (.tmp 14) rfl (w.heap.size + 1) _ rfl rfl 87 _ (HK.out _ hb) ?h1 ?h2 ?h3 ?h4))
  case h1 => kernel_rfl
  case h2 => rfl
  case h3 => simp [Value.oneCell']
  case h4 =>
   go_wp2
   refine bodyPost_ret (results_cell_row rfl _ _ (w.heap.size + 1) 87 _ (0, 0) _ rfl (setRow_heap _ _ _ _ _ _ (HK.out _ hb)) Try.underlying87 rfl (by kernel_rfl)) rfl ⟨rfl, ?_⟩
   exact Go.Det.below_setRow (hB0.trans (hb.mono hB0.size)) (by omega) _
 ·rw [Int.zero_add] at g2
  have H1 := Lib.hid g2
  have hj : j < 13 := (List.getElem?_eq_some_iff.1 g1).1
  have hj0 : ¬ (j : Int) < 0 := by omega
  have hj2 : (j : Int) < 13 := by omega
  have hxs := names_sizes x (List.mem_of_getElem? g1)
  have hx1 : (0 : Int) ≤ (x.size : Int) - 1 := by omega
  have hxz : x.size ≤ 2 := hxs.2
  have HXn := Lib.hid g1
  have hlt := letter_calls x hxs.1 (by omega)
  have HL := Lib.hid hlt
  rw [g3]
  dsimp only
  clear g1 g2 g3 hlt
  by_cases hsz : x.size + 1 < s.size
  ·have hsz2 : (1 : Int) + (x.size : Int) < (s.size : Int) := by omega
   have hsz3 : 1 + x.size < s.size := by omega
   have hr := bt_range s ((x.size + 1 : Nat) : Int)
   have hg : ((s[1 + x.size].toNat : Nat) : Int) = bt s ((x.size + 1 : Nat) : Int) := by
    have := bt_at s ((1 + x.size : Nat) : Int) (by rw [Int.toNat_natCast]; exact hsz3)
    rw [Nat.add_comm x.size 1, ← this]; rfl
   have hw := fun W => white_calls _ hr.1 hr.2 W
   generalize bt s ((x.size + 1 : Nat) : Int) = y at *
   have HW := Lib.hid hw
   clear hw
   cases hwy : whiteP y
   ·rw [hwy] at HW
    rw [if_neg (fun h => by simp at h)]
    go_enter Try.func160, Try.ntmps160
    go_wp2_with (first | (go_at_call 85; refine (names_calls _).mono ?_; rintro e w' ⟨rfl, rfl⟩) | (go_at_call 86; refine HF.out.mono ?_; rintro e w' ⟨rfl, hb⟩; rw [H1.out]; have hcc := HC.out w' hb j x HXn.out; simp only [World.size_alloc] at hcc; have hbx := HX.out w' hb) | (go_at_call 35; refine (HW.out _).mono ?_; rintro e w2 ⟨rfl, hb2⟩; have hb3 := hb.trans (hb2.mono hb.size); have hcc2 := HC.out w2 hb3 j x HXn.out; simp only [World.size_alloc] at hcc2) | (go_at_call 88; refine (HL.out _).mono ?_; rintro e w3 ⟨rfl, rfl⟩) | (refine wpList_store_row rfl 87 (.tmp 4) (.tmp 41) rfl (w.heap.size + 1) _ rfl rfl 87 _ (HK.out _ hb3) ?h1 ?h2 ?h3 ?h4))
    case h1 => kernel_rfl
    case h2 => rfl
    case h3 => simp [Value.oneCell']
    case h4 =>
     go_wp2
     refine bodyPost_ret (results_cell_row rfl _ _ (w.heap.size + 1) 87 _ (0, 0) _ rfl (setRow_heap _ _ _ _ _ _ (HK.out _ hb3)) Try.underlying87 rfl (by kernel_rfl)) rfl ⟨?_, ?_⟩
     ·first | rfl | (rw [Int.add_comm]; rfl)
     ·exact Go.Det.below_setRow (hB0.trans (hb3.mono hB0.size)) (by omega) _
   ·rw [hwy] at HW
    rw [if_pos ⟨hsz, rfl⟩]
    go_enter Try.func160, Try.ntmps160
    go_wp2_with (first | (go_at_call 85; refine (names_calls _).mono ?_; rintro e w' ⟨rfl, rfl⟩) | (go_at_call 86; refine HF.out.mono ?_; rintro e w' ⟨rfl, hb⟩; rw [H1.out]; have hcc := HC.out w' hb j x HXn.out; simp only [World.size_alloc] at hcc; have hbx := HX.out w' hb) | (go_at_call 35; refine (HW.out _).mono ?_; rintro e w2 ⟨rfl, hb2⟩; have hb3 := hb.trans (hb2.mono hb.size); have hcc2 := HC.out w2 hb3 j x HXn.out; simp only [World.size_alloc] at hcc2) | (go_at_call 88; refine (HL.out _).mono ?_; rintro e w3 ⟨rfl, rfl⟩) | (refine wpList_store_row rfl 87 (.tmp 4) (.tmp 41) rfl (w.heap.size + 1) _ rfl rfl 87 _ (HK.out _ hb3) ?h1 ?h2 ?h3 ?h4))
    case h1 => kernel_rfl
    case h2 => rfl
    case h3 => simp [Value.oneCell']
    case h4 =>
     go_wp2
     refine bodyPost_ret (results_cell_row rfl _ _ (w.heap.size + 1) 87 _ (0, 0) _ rfl (setRow_heap _ _ _ _ _ _ (HK.out _ hb3)) Try.underlying87 rfl (by kernel_rfl)) rfl ⟨?_, ?_⟩
     ·rw [show (1 : Int) + (x.size : Int) + 1 = (x.size : Int) + 2 by omega]; rfl
     ·exact Go.Det.below_setRow (hB0.trans (hb3.mono hB0.size)) (by omega) _
  ·have hsz2 : ¬ (1 : Int) + (x.size : Int) < (s.size : Int) := by omega
   rw [if_neg (fun h => hsz h.1)]
   go_enter Try.func160, Try.ntmps160
   go_wp2_with (first | (go_at_call 85; refine (names_calls _).mono ?_; rintro e w' ⟨rfl, rfl⟩) | (go_at_call 86; refine HF.out.mono ?_; rintro e w' ⟨rfl, hb⟩; rw [H1.out]; have hcc := HC.out w' hb j x HXn.out; simp only [World.size_alloc] at hcc; have hbx := HX.out w' hb) | (go_at_call 88; refine (HL.out _).mono ?_; rintro e w3 ⟨rfl, rfl⟩) | (refine wpList_store_row rfl 87 (.tmp 4) (.tmp 41) rfl (w.heap.size + 1) _ rfl rfl 87 _ (HK.out _ hb) ?h1 ?h2 ?h3 ?h4))
   case h1 => kernel_rfl
   case h2 => rfl
   case h3 => simp [Value.oneCell']
   case h4 =>
    go_wp2
    refine bodyPost_ret (results_cell_row rfl _ _ (w.heap.size + 1) 87 _ (0, 0) _ rfl (setRow_heap _ _ _ _ _ _ (HK.out _ hb)) Try.underlying87 rfl (by kernel_rfl)) rfl ⟨?_, ?_⟩
    ·first | rfl | (rw [Int.add_comm]; rfl)
    ·exact Go.Det.below_setRow (hB0.trans (hb.mono hB0.size)) (by omega) _
def plainTo (t : ByteArray) : Nat → Nat → Nat
 | 0, q => q
 | d + 1, q => if q < t.size ∧ plainP (bt t (q : Int)) = true then plainTo t d (q + 1) else q
theorem plainTo_stop (t : ByteArray) : ∀ d q, ¬ (q < t.size ∧ plainP (bt t (q : Int)) = true) → plainTo t d q = q
 | 0, _, _ => rfl
 | d + 1, q, h => by simp only [plainTo]; rw [if_neg h]
theorem plainTo_size (t : ByteArray) : ∀ d q, q ≤ t.size → plainTo t d q ≤ t.size
 | 0, q, h => h
 | d + 1, q, h => by
  simp only [plainTo]
  split
  ·rename_i hc; exact plainTo_size t d (q + 1) (by omega)
  ·exact h
def nextP (t : ByteArray) (at_ : Int) : Spot :=
 if bt t 0 = 123 then openP t at_
 else if bt t 0 = 125 then ⟨⟨3, 0, ⟨#[]⟩, at_⟩, 1, 0⟩
 else if plainTo t t.size 0 = 0 then ⟨⟨0, 0, ⟨#[]⟩, 0⟩, 0, 3⟩
 else ⟨⟨1, 0, t.extract 0 (plainTo t t.size 0), at_⟩, ((plainTo t t.size 0 : Nat) : Int), 0⟩
set_option pp.maxSteps 3000 in
set_option maxRecDepth 100000 in
set_option maxHeartbeats 4000000 in
theorem next_calls (t : ByteArray) (at_ : Int) (h1 : 1 ≤ t.size) (ht : t.size ≤ 1000000) (w : World) :
  Calls Try.prog 130 #[.string t, .int .i64 at_] w fun e w' => e = .returned (encSpot (nextP t at_)) ∧ Below w.heap.size w w' := by
 have hblk : ∀ W, Below (w.alloc (.cells #[.int .i64 0, .int .u8 0, .string ⟨#[]⟩, .int .i64 0, .int .i64 0, .int .i64 0] 87)).heap.size (w.alloc (.cells #[.int .i64 0, .int .u8 0, .string ⟨#[]⟩, .int .i64 0, .int .i64 0, .int .i64 0] 87)) W → W.heap[w.heap.size]? = some (.cells #[.int .i64 0, .int .u8 0, .string ⟨#[]⟩, .int .i64 0, .int .i64 0, .int .i64 0] 87 (0, 0)) := fun W hW =>
  (hW.block w.heap.size (by simp)).trans (blk_new w (.cells #[.int .i64 0, .int .u8 0, .string ⟨#[]⟩, .int .i64 0, .int .i64 0, .int .i64 0] 87))
 have hB0 : Below w.heap.size w (w.alloc (.cells #[.int .i64 0, .int .u8 0, .string ⟨#[]⟩, .int .i64 0, .int .i64 0, .int .i64 0] 87)) := (Below.refl _ w).alloc (Nat.le_refl _) _
 have HK := Lib.hid hblk
 clear hblk
 have hg0 : ((t[0].toNat : Nat) : Int) = bt t 0 := bt_at t 0 (by simp; omega)
 have hop := fun w => opening_calls t at_ h1 ht w
 obtain ⟨r, hr0⟩ : ∃ r, nextP t at_ = r := ⟨_, rfl⟩
 rw [hr0]
 unfold nextP at hr0
 by_cases h123 : bt t 0 = 123
 ·rw [if_pos h123] at hr0
  have hg1 : ((t[0].toNat : Nat) : Int) = 123 := hg0.trans h123
  have HO := Lib.hid hop
  clear hg0 h123 hop
  rw [hr0] at HO
  clear hr0
  go_enter Try.func130, Try.ntmps130
  go_wp2_with (first | (go_at_call 160; refine (HO.out _).mono ?_; rintro e w' ⟨rfl, hb⟩; unfold encSpot) | (refine wpList_store_row rfl 87 (.tmp 4) (.tmp 12) rfl w.heap.size _ rfl rfl 87 _ (HK.out _ hb) ?h1 ?h2 ?h3 ?h4))
  case h1 => kernel_rfl
  case h2 => rfl
  case h3 => simp [Value.oneCell']
  case h4 =>
   go_wp2
   refine bodyPost_ret (results_cell_row rfl _ _ w.heap.size 87 _ (0, 0) _ rfl (setRow_heap _ _ _ _ _ _ (HK.out _ hb)) Try.underlying87 rfl (by kernel_rfl)) rfl ⟨rfl, ?_⟩
   exact Go.Det.below_setRow (hB0.trans (hb.mono hB0.size)) (by omega) _
 ·rw [if_neg h123] at hr0
  clear hop
  by_cases h125 : bt t 0 = 125
  ·rw [if_pos h125] at hr0
   subst hr0
   have hg1 : ((t[0].toNat : Nat) : Int) = 125 := hg0.trans h125
   clear hg0 h123 h125
   go_enter Try.func130, Try.ntmps130
   go_wp2_with (refine wpList_store_row rfl 87 (.tmp 4) (.tmp 19) rfl w.heap.size _ rfl rfl 87 _ (HK.out _ (Below.refl _ _)) ?h1 ?h2 ?h3 ?h4)
   case h1 => kernel_rfl
   case h2 => rfl
   case h3 => simp [Value.oneCell']
   case h4 =>
    go_wp2
    refine bodyPost_ret (results_cell_row rfl _ _ w.heap.size 87 _ (0, 0) _ rfl (setRow_heap _ _ _ _ _ _ (HK.out _ (Below.refl _ _))) Try.underlying87 rfl (by kernel_rfl)) rfl ⟨rfl, ?_⟩
    exact Go.Det.below_setRow hB0 (by omega) _
  ·rw [if_neg h125] at hr0
   have HRs := Lib.hid hr0
   clear hr0
   have hb1 : (bt t 0 == 123) = false := beq_eq_false_iff_ne.2 h123
   have hb2 : (bt t 0 == 125) = false := beq_eq_false_iff_ne.2 h125
   generalize bt t 0 = y0 at *
   clear h123 h125
   go_enter Try.func130, Try.ntmps130
   go_wp2
   go_loopw [5] (fun v wr => ∃ (k d : Nat), k ≤ t.size ∧ v = .int .i64 k ∧ Hid (t.size ≤ d + k ∧ plainTo t t.size 0 = plainTo t d k) ∧ Below (w.alloc (.cells #[.int .i64 0, .int .u8 0, .string ⟨#[]⟩, .int .i64 0, .int .i64 0, .int .i64 0] 87)).heap.size (w.alloc (.cells #[.int .i64 0, .int .u8 0, .string ⟨#[]⟩, .int .i64 0, .int .i64 0, .int .i64 0] 87)) wr) (fun v _ => t.size - (intOf v).toNat)
   case atStart => exact ⟨0, t.size, by omega, rfl, Lib.hid ⟨by omega, rfl⟩, Below.refl _ _⟩
   case round =>
    obtain ⟨k, d, hk, rfl, H, hB⟩ := hrel
    have Hstop := Lib.hid (plainTo_stop t d k)
    by_cases hlt : k < t.size
    ·have hl2 : (k : Int) < (t.size : Int) := by omega
     obtain ⟨d, rfl⟩ : ∃ m, d = m + 1 := ⟨d - 1, by have := H.out.1; omega⟩
     have hr := bt_range t k
     have hgk : ((t[k].toNat : Nat) : Int) = bt t k := bt_at t k (by simpa using hlt)
     have hp := fun W => plain_calls (bt t k) hr.1 hr.2 W
     have Hstep : Hid (plainP (bt t (k : Int)) = true → plainTo t (d + 1) k = plainTo t d (k + 1)) := Lib.hid (fun h => by simp only [plainTo]; rw [if_pos ⟨hlt, h⟩])
     generalize bt t (k : Int) = y at *
     cases hpy : plainP y with
     | true =>
      rw [hpy] at hp
      have HP := Lib.hid hp
      have HN : Hid (t.size ≤ d + (k + 1) ∧ plainTo t t.size 0 = plainTo t d (k + 1)) := Lib.hid ⟨by have := H.out.1; omega, H.out.2.trans (Hstep.out hpy)⟩
      clear hp hpy Hstep Hstop H
      go_wp2_with (go_at_call 161; refine (HP.out _).mono ?_; rintro e w' ⟨rfl, hb⟩)
      go_roundw
      case rel => exact ⟨k + 1, d, by omega, by go_num, HN, hB.trans (hb.mono hB.size)⟩
      case measure => simp [intOf]; omega
     | false =>
      rw [hpy] at hp
      have HP := Lib.hid hp
      have HT : Hid (plainTo t t.size 0 = k) := Lib.hid (H.out.2.trans (Hstop.out (fun h => by rw [hpy] at h; exact absurd h.2 (by simp))))
      clear hp hpy Hstep Hstop H
      by_cases hk0 : k = 0
      ·subst hk0
       obtain rfl : y = y0 := hgk.symm.trans hg0
       simp only [Int.natCast_zero] at *
       go_wp2_with (first | (go_at_call 161; refine (HP.out _).mono ?_; rintro e w' ⟨rfl, hb⟩; have hb2 := hB.trans (hb.mono hB.size)) | (refine wpList_store_row rfl 87 (.tmp 4) (.tmp 34) rfl w.heap.size _ rfl rfl 87 _ (HK.out _ hb2) ?h1 ?h2 ?h3 ?h4))
       case h1 => kernel_rfl
       case h2 => rfl
       case h3 => simp [Value.oneCell']
       case h4 =>
        go_wp2
        refine bodyPost_ret (results_cell_row rfl _ _ w.heap.size 87 _ (0, 0) _ rfl (setRow_heap _ _ _ _ _ _ (HK.out _ hb2)) Try.underlying87 rfl (by kernel_rfl)) rfl ⟨?_, ?_⟩
        ·rw [← HRs.out, if_pos HT.out]; rfl
        ·exact Go.Det.below_setRow (hB0.trans (hb2.mono hB0.size)) (by omega) _
      ·have hk1 : ¬ (k : Int) = 0 := by omega
       have hk2 : ((k : Int) == 0) = false := beq_eq_false_iff_ne.2 hk1
       have hsl := fun W => Go.Det.sl_strh (P := Try.prog) Try.underlying9 t k (by omega) W
       clear hk1
       go_wp2_with (first | (go_at_call 161; refine (HP.out _).mono ?_; rintro e w' ⟨rfl, hb⟩; have hb2 := hB.trans (hb.mono hB.size)) | (refine wpList_store_row rfl 87 (.tmp 4) (.tmp 41) rfl w.heap.size _ rfl rfl 87 _ (HK.out _ hb2) ?h1 ?h2 ?h3 ?h4))
       case h1 => kernel_rfl
       case h2 => rfl
       case h3 => simp [Value.oneCell']
       case h4 =>
        go_wp2
        refine bodyPost_ret (results_cell_row rfl _ _ w.heap.size 87 _ (0, 0) _ rfl (setRow_heap _ _ _ _ _ _ (HK.out _ hb2)) Try.underlying87 rfl (by kernel_rfl)) rfl ⟨?_, ?_⟩
        ·rw [← HRs.out, if_neg (by rw [HT.out]; exact hk0), HT.out]; rfl
        ·exact Go.Det.below_setRow (hB0.trans (hb2.mono hB0.size)) (by omega) _
    ·have hl2 : ¬ (k : Int) < (t.size : Int) := by omega
     have HT : Hid (plainTo t t.size 0 = k) := Lib.hid (H.out.2.trans (Hstop.out (fun h => hlt h.1)))
     have hk0 : ¬ k = 0 := by omega
     have hk1 : ¬ (k : Int) = 0 := by omega
     have hk2 : ((k : Int) == 0) = false := beq_eq_false_iff_ne.2 hk1
     have hsl := fun W => Go.Det.sl_strh (P := Try.prog) Try.underlying9 t k (by omega) W
     clear hk1 Hstop H
     go_wp2_with (first | (refine wpList_store_row rfl 87 (.tmp 4) (.tmp 41) rfl w.heap.size _ rfl rfl 87 _ (HK.out _ hB) (by kernel_rfl) rfl (by simp [Value.oneCell']) ?h4))
     case h4 =>
      go_wp2
      refine bodyPost_ret (results_cell_row rfl _ _ w.heap.size 87 _ (0, 0) _ rfl (setRow_heap _ _ _ _ _ _ (HK.out _ hB)) Try.underlying87 rfl (by kernel_rfl)) rfl ⟨?_, ?_⟩
      ·rw [← HRs.out, if_neg (by rw [HT.out]; exact hk0), HT.out]; rfl
      ·exact Go.Det.below_setRow (hB0.trans (hB.mono hB0.size)) (by omega) _
end Go.Proofs.Ythcmfjpheanphaa.Pr
namespace Go.Proofs.Ythcmfjpheanphaa.Pr
open Go.RowKit Go.Shelf Go.Proofs.YthcmfjpheanphaaW.PrintWords
attribute [local go_sem] Oper.semAt_some
theorem openN_pref (t x : ByteArray) (h : openN t = some x) : prefP (t.extract 1 t.size) x = true ∧ x ∈ namesL := by
 unfold openN at h
 exact ⟨List.find?_some (p := fun n => prefP (t.extract 1 t.size) n) h, List.mem_of_find?_eq_some h⟩
theorem prefP_size {t n : ByteArray} (h : prefP t n = true) : n.size ≤ t.size := by
 unfold prefP at h
 split at h
 ·assumption
 ·cases h
theorem nextP_ok (t : ByteArray) (a : Int) (h1 : 1 ≤ t.size) (h : (nextP t a).e = 0) : 1 ≤ (nextP t a).size ∧ (nextP t a).size ≤ t.size := by
 unfold nextP at h ⊢
 split
 ·rename_i h123
  rw [if_pos h123] at h
  unfold openP at h ⊢
  cases ho : openN t with
  | none => rw [ho] at h; simp at h
  | some x =>
   simp only
   have hp := openN_pref t x ho
   have := prefP_size hp.1
   rw [ByteArray.size_extract] at this
   split <;> omega
 ·rename_i h123
  rw [if_neg h123] at h
  split
  ·simp only; omega
  ·rename_i h125
   rw [if_neg h125] at h
   split
   ·rename_i h0
    rw [if_pos h0] at h
    simp at h
   ·have := plainTo_size t t.size 0 (by omega)
    simp only; omega
def allL (s : ByteArray) : Nat → Nat → List (Nat × Spot)
 | 0, _ => []
 | d + 1, at_ => if at_ < s.size then (at_, nextP (s.extract at_ s.size) at_) :: (if (nextP (s.extract at_ s.size) at_).e = 0 then allL s d (at_ + (nextP (s.extract at_ s.size) at_).size.toNat) else []) else []
def encA (x : Nat × Spot) : Array Value := #[.int .i64 x.1, encSpot x.2]
def KS (B : Nat) (W W' : World) : Prop := W'.heap[B]? = W.heap[B]? ∧ ∀ (g : Nat) (cs : Array Value), W.heap[g]? = some (.cells cs 87 (0, 0)) → W'.heap[g]? = some (.cells cs 87 (0, 0))
theorem KS_t {B : Nat} {X Y Z : World} (h : KS B X Y) (k : KS B Y Z) : KS B X Z := ⟨k.1.trans h.1, fun g cs hg => k.2 g cs (h.2 g cs hg)⟩
theorem KS_b {B : Nat} {w : World} (hB : B < w.heap.size) (W : World) (l : Nat) (o o' : Obj) (hl : w.heap.size ≤ l) (ho : W.heap[l]? = some o) (hc : o.isCells = false) (_ : o.isWalk = false) : KS B W (W.putObj l o') :=
 ⟨World.putObj_heap_other (by omega), fun g cs hg => by
  by_cases hgl : g = l
  ·subst hgl
   rw [ho] at hg
   cases hg
   cases hc
  ·rw [World.putObj_heap_other hgl]; exact hg⟩
set_option pp.maxSteps 3000 in
set_option maxRecDepth 100000 in
set_option maxHeartbeats 4000000 in
theorem all1_in (n : Nat) (hn : 1 ≤ n) (l Bs : Nat) (s : ByteArray) (hs : s.size ≤ 1000000) (J Jx : List (Nat × Spot) → World → Prop) (W : World) (hJ : AbidesFrom W.heap.size J)
  (hY : ∀ pre x W, J pre W → pre.length < s.size → YieldAt Fence.wide (n - 1) Try.prog l (encA x) W fun e W' =>
   (e = .returned (.bool true) ∧ J (pre ++ [x]) W' ∧ KS Bs W W') ∨ (e = .returned (.bool false) ∧ Jx (pre ++ [x]) W'))
  (hb : Boxed W Bs 9 (.string s)) (h0 : J [] W) :
  CallsIn Fence.wide n Try.prog 129 #[.func (.yield l) #[] #[], .pointer (some ⟨Bs, 0, none⟩)] W fun e W' => (∃ v, e = .returned v) ∧
   ((∃ ys, ys = allL s s.size 0 ∧ J ys W') ∨ (∃ pre, pre <+: allL s s.size 0 ∧ Jx pre W')) := by
 refine callsIn_of_wp Try.func129 rfl trivial ?_ rfl
 simp only [Try.ntmps129, List.size_toArray, List.length_cons, List.length_nil, Nat.reduceAdd, Nat.reduceSub, Array.replicate_succ, Array.replicate_zero, List.push_toArray, List.append_toArray, List.nil_append, List.cons_append]
 gi_wp2
 gi_loopw [3] (fun i wr => ∃ (k d : Nat) (pre : List (Nat × Spot)), k ≤ s.size ∧ i = .int .i64 k ∧ s.size ≤ d + k ∧ allL s s.size 0 = pre ++ allL s d k ∧ pre.length ≤ k ∧ J pre wr ∧ Boxed wr Bs 9 (.string s))
  (fun i _ => s.size - (intOf i).toNat)
 case atStart => exact ⟨0, s.size, [], Nat.zero_le _, rfl, by omega, rfl, Nat.le_refl _, h0, hb⟩
 case round =>
  obtain ⟨k, d, pre, hk, rfl, hd, hL, hpl, hJs, hB⟩ := hrel
  have hcx := hB.cell
  by_cases hlt : k < s.size
  ·have hl2 : (k : Int) < (s.size : Int) := by omega
   obtain ⟨d, rfl⟩ : ∃ d', d = d' + 1 := ⟨d - 1, by omega⟩
   have hsl := fun W => Go.Det.sl_strl (P := Try.prog) Try.underlying9 s k (by omega) W
   have htz : (s.extract k s.size).size = s.size - k := by rw [ByteArray.size_extract]; omega
   have hnx := fun w => next_calls (s.extract k s.size) k (by omega) (by omega) w
   have hok := nextP_ok (s.extract k s.size) k (by omega)
   have hLs : allL s (d + 1) k = (k, nextP (s.extract k s.size) k) :: (if (nextP (s.extract k s.size) k).e = 0 then allL s d (k + (nextP (s.extract k s.size) k).size.toNat) else []) := by simp only [allL]; rw [if_pos hlt]
   rw [hLs] at hL
   clear hLs
   rw [htz] at hok
   generalize s.extract k s.size = t at *
   generalize nextP t k = x at *
   obtain ⟨⟨f0, f1, f2, f3⟩, sz, er⟩ := x
   have HL := Lib.hid hL
   have HN := Lib.hid hnx
   have HO := Lib.hid hok
   clear hL hnx hok hb htz
   gi_wp2_with fail
   refine ⟨trivial, (callsIn_wide.2 (HN.out _)).mono ?_⟩
   rintro e w2 ⟨rfl, hb2⟩
   unfold encSpot
   have hB2 := boxed_below hB hb2
   have hJ2 : J pre w2 := hJ _ _ _ none hJs (grown_of_below hb2 none) (by simp)
   have hJ3 : J pre (w2.alloc (.cells #[.int .i64 f0, .int .u8 f1, .string f2, .int .i64 f3, .int .i64 sz, .int .i64 er] 87)) := hJ _ _ _ none hJ2 (World.grownBy_alloc _ _ none) (by simp)
   have hB3 := hB2.alloc (.cells #[.int .i64 f0, .int .u8 f1, .string f2, .int .i64 f3, .int .i64 sz, .int .i64 er] 87)
   have hS3 := blk_new w2 (.cells #[.int .i64 f0, .int .u8 f1, .string f2, .int .i64 f3, .int .i64 sz, .int .i64 er] 87)
   clear hb2 hJs hB hcx
   obtain ⟨fn, tmps, assign, body, hy, hR⟩ := hY pre (k, ⟨⟨f0, f1, f2, f3⟩, sz, er⟩) _ hJ3 (by omega)
   dsimp only [encA, encSpot] at hy
   gi_wp2_with fail
   refine hR.mono ?_
   rintro e W3 (⟨rfl, hJ4, hk3⟩ | ⟨rfl, hJx4⟩)
   ·have hblk := hk3.2 _ _ hS3
    have hsz := blk_cell hblk 4
    have hse := blk_cell hblk 5
    simp only [List.getElem?_toArray, List.getElem?_cons_succ, List.getElem?_cons_zero] at hsz hse
    have hB4 := boxed_keptB hB3 hk3.1
    by_cases her : er = 0
    ·have hoo := HO.out her
     subst her
     obtain ⟨z, rfl⟩ : ∃ z : Nat, sz = z := ⟨sz.toNat, by omega⟩
     clear hblk HO hB2 hB3 hk3 hJ2 hJ3 hS3
     gi_wp2
     go_roundw
     case rel =>
      refine ⟨k + z, d, pre ++ [(k, ⟨⟨f0, f1, f2, f3⟩, z, 0⟩)], by omega, by go_num, by omega, ?_, by rw [List.length_append]; simp only [List.length_singleton]; omega, hJ4, hB4⟩
      rw [HL.out]; simp
     case measure => simp [intOf]; omega
    ·have hb1 : (er == 0) = false := beq_eq_false_iff_ne.2 her
     have hb2 : (er != 0) = true := bne_iff_ne.2 her
     have hend : Hid (allL s s.size 0 = pre ++ [(k, ⟨⟨f0, f1, f2, f3⟩, sz, er⟩)]) := Lib.hid (by rw [HL.out]; simp [her])
     clear hblk HO hB2 hB3 hk3 hJ2 hJ3 hS3 her
     gi_wp2
     refine bodyPost_ret (results_none rfl _ _ _) rfl ?_
     exact ⟨⟨_, rfl⟩, .inl ⟨_, hend.out.symm, hJ4⟩⟩
   ·clear HO hB2 hB3 hJ2 hJ3
    gi_wp2
    refine bodyPost_ret (results_none rfl _ _ _) rfl ?_
    exact ⟨⟨_, rfl⟩, .inr ⟨_, ⟨_, by rw [HL.out, List.append_assoc]; rfl⟩, hJx4⟩⟩
  ·gi_wp2
   go_end0
   have hL2 : allL s s.size 0 = pre := by
    rw [hL]
    cases d with
    | zero => simp [allL]
    | succ d => simp [allL, hlt]
   exact ⟨⟨_, rfl⟩, .inl ⟨pre, hL2.symm, hJs⟩⟩
theorem all_stops (n : Nat) (hn : 1 ≤ n) (Bs : Nat) (s : ByteArray) (hs : s.size ≤ 1000000) (w : World) (hb : Boxed w Bs 9 (.string s)) :
  SeqStopsK Fence.wide n Try.prog 129 #[.pointer (some ⟨Bs, 0, none⟩)] encA (KS Bs) (fun ys => ys = allL s s.size 0) (fun pre => pre <+: allL s s.size 0) s.size w := fun l J Jx W hW hJ _ hY h0 =>
 all1_in n hn l Bs s hs J Jx W hJ hY (boxed_below hb hW) h0
set_option maxHeartbeats 400000 in
theorem all_in (s : ByteArray) (n : Nat) (w : World) :
  CallsIn Fence.wide n Try.prog 82 #[.string s] w fun e w' => e = .returned (.func (.func 129) #[] #[.pointer (some ⟨w.heap.size, 0, none⟩)]) ∧ w' = w.alloc (.cells #[.string s] 9) := by
 refine callsIn_of_wp Try.func82 rfl trivial ?_ rfl
 simp only [Try.ntmps82, List.size_toArray, List.length_cons, List.length_nil, Nat.reduceAdd, Nat.reduceSub, Array.replicate_succ, Array.replicate_zero, List.push_toArray, List.append_toArray, List.nil_append, List.cons_append]
 gi_wp2
 go_ret
 exact ⟨rfl, rfl⟩
def flat47 (xs : List S47) : List Value := xs.flatMap fun x => [.int .i64 x.f0, .int .u8 x.f1, .string x.f2, .int .i64 x.f3]
theorem flat47_length (xs : List S47) : (flat47 xs).length = xs.length * 4 := by
 induction xs with
 | nil => rfl
 | cons x xs ih => simp [flat47] at ih ⊢; omega
theorem flat47_snoc (xs : List S47) (x : S47) : flat47 (xs ++ [x]) = flat47 xs ++ [.int .i64 x.f0, .int .u8 x.f1, .string x.f2, .int .i64 x.f3] := by simp [flat47]
theorem flat47_at (xs : List S47) : ∀ (j : Nat) (p : S47), xs[j]? = some p → ((flat47 xs).drop (j * 4)).take 4 = [.int .i64 p.f0, .int .u8 p.f1, .string p.f2, .int .i64 p.f3] := by
 induction xs with
 | nil => intro j p h; simp at h
 | cons x xs ih =>
  intro j p h
  cases j with
  | zero => simp at h; subst h; simp [flat47]
  | succ j =>
   have := ih j p (by simpa using h)
   rw [Nat.succ_mul]
   simp only [flat47, List.flatMap_cons] at this ⊢
   rw [show ∀ l : List Value, (([.int .i64 x.f0, .int .u8 x.f1, .string x.f2, .int .i64 x.f3] : List Value) ++ l).drop (j * 4 + 4) = l.drop (j * 4) from fun l => rfl]
   exact this
theorem own_R47 {w : World} {base : Nat} {v : Value} {xs : List S47} (h : w.ownsRow base 47 4 v xs.length (flat47 xs)) (b' : Nat) (hb : b' ≤ base) : Kd.R k47 47 w b' (fun _ => True) v xs := by
 refine Kd.R_lower (base := base) ⟨fun _ _ => trivial, flat47 xs, h, flat47_length xs, fun j p hp => ?_⟩ hb
 have := flat47_at xs j p hp
 show k47.M _ _ _ _ (((flat47 xs).drop (j * 4)).take 4)
 rw [this]
 exact k47_mkM _ _ _ _
theorem info47h : (Try.prog.info? 47).map (fun i => (i.zero, i.size, i.bytes)) = some (some (.agg #[(.int .i64 0), (.int .u8 0), (.string ⟨#[]⟩), (.int .i64 0)]), 4, 40) := by kernel_rfl
def lexes (pre : List (Nat × Spot)) : List S47 := pre.map (·.2.l)
def lastAt (pre : List (Nat × Spot)) : Int := match pre.getLast? with | some x => x.1 | none => 0
def lastE (pre : List (Nat × Spot)) : Int := match pre.getLast? with | some x => x.2.e | none => 0
def lexP (s : ByteArray) : List S47 × Int × Int :=
 if 8192 < s.size then ([], 0, 4)
 else if lastE (allL s s.size 0) = 0 then (lexes (allL s s.size 0), 0, 0) else ([], lastAt (allL s s.size 0), lastE (allL s s.size 0))
theorem lastE_snoc (pre : List (Nat × Spot)) (x : Nat × Spot) : lastE (pre ++ [x]) = x.2.e := by simp [lastE]
theorem lastAt_snoc (pre : List (Nat × Spot)) (x : Nat × Spot) : lastAt (pre ++ [x]) = x.1 := by simp [lastAt]
theorem lexes_snoc (pre : List (Nat × Spot)) (x : Nat × Spot) : lexes (pre ++ [x]) = lexes pre ++ [x.2.l] := by simp [lexes]
theorem lexes_length (pre : List (Nat × Spot)) : (lexes pre).length = pre.length := by simp [lexes]
theorem allL_whole (s : ByteArray) : ∀ (d k : Nat) (pre : List (Nat × Spot)), pre <+: allL s d k → lastE pre ≠ 0 → pre = allL s d k
 | 0, k, pre, h, he => by
  simp only [allL] at h ⊢
  exact List.prefix_nil.1 h
 | d + 1, k, pre, h, he => by
  simp only [allL] at h ⊢
  split at h
  ·rename_i hk
   rw [if_pos hk]
   cases pre with
   | nil => simp [lastE] at he
   | cons y pre =>
    rw [List.cons_prefix_cons] at h
    obtain ⟨rfl, h⟩ := h
    cases pre with
    | nil =>
     have : (nextP (s.extract k s.size) k).e ≠ 0 := by simpa [lastE] using he
     rw [if_neg this]
    | cons z pre =>
     split at h
     ·rename_i h0
      rw [if_pos h0]
      congr 1
      exact allL_whole s d _ (z :: pre) h (by simpa [lastE] using he)
     ·simp at h
  ·have := List.prefix_nil.1 h
   subst this
   simp [lastE] at he
theorem boxed_if {W : World} {B : Nat} {t : TypeId} {v : Value} (h : Boxed W B t v) (B1 : Nat) (v1 : Value) : Boxed (W.setCell ⟨B1, 0, none⟩ v1) B t (if B1 = B then v1 else v) := by
 by_cases e : B1 = B
 ·subst e; rw [if_pos rfl]; exact h.set _
 ·rw [if_neg e]; exact h.other (fun h => e h.symm) _
theorem boxed3 {W : World} {B : Nat} {t : TypeId} {v v' : Value} (h : Boxed W B t v) (B1 B2 B3 : Nat) (v1 v2 v3 : Value) (e : (if B3 = B then v3 else if B2 = B then v2 else if B1 = B then v1 else v) = v') :
  Boxed (((W.setCell ⟨B1, 0, none⟩ v1).setCell ⟨B2, 0, none⟩ v2).setCell ⟨B3, 0, none⟩ v3).drew B t v' := by
 subst e
 exact boxed_drew (boxed_if (boxed_if (boxed_if h B1 v1) B2 v2) B3 v3)
theorem boxed3n {W : World} {B : Nat} {t : TypeId} {v v' : Value} (h : Boxed W B t v) (B1 B2 B3 : Nat) (v1 v2 v3 : Value) (e : (if B3 = B then v3 else if B2 = B then v2 else if B1 = B then v1 else v) = v') :
  Boxed (((W.setCell ⟨B1, 0, none⟩ v1).setCell ⟨B2, 0, none⟩ v2).setCell ⟨B3, 0, none⟩ v3) B t v' := by
 subst e
 exact boxed_if (boxed_if (boxed_if h B1 v1) B2 v2) B3 v3
def spotCells (x : Spot) : Array Value := #[.int .i64 x.l.f0, .int .u8 x.l.f1, .string x.l.f2, .int .i64 x.l.f3, .int .i64 x.size, .int .i64 x.e]
theorem blk_own {W W' : World} {row : Option Nat} {g B : Nat} {cs : Array Value} {t : TypeId} (h : W.heap[g]? = some (.cells cs t (0, 0))) (hg : W.grownBy W' row) (hr : ∀ r, row = some r → B ≤ r ∧ ∃ o : Obj, W.heap[r]? = some o ∧ o.isCells = false) : W'.heap[g]? = some (.cells cs t (0, 0)) :=
 (hg.block g (blk_lt h) (fun e => by
  obtain ⟨_, o, ho, hc⟩ := hr g e.symm
  rw [h] at ho
  cases ho
  cases hc)).trans h
set_option pp.maxSteps 1500 in
set_option maxRecDepth 100000 in
set_option maxHeartbeats 4000000 in
theorem lexOf_in (s : ByteArray) (hs : s.size ≤ 8192) (w : World) :
  CallsIn Fence.wide 3 Try.prog 45 #[.string s] w fun e W' => ∃ v l a b, e = .returned (.tuple #[v, .int .i64 a, .int .i64 b]) ∧ lexP s = (l, a, b) ∧ Kd.R k47 47 W' w.heap.size (fun _ => True) v l ∧ Below w.heap.size w W' := by
 obtain ⟨i0, hi, hz0, hz1, hz2⟩ := info_parts info47h
 refine callsIn_of_wp_marks Try.func45 rfl trivial ?_ rfl
 simp only [Try.ntmps45, List.size_toArray, List.length_cons, List.length_nil, Nat.reduceAdd, Nat.reduceSub, Array.replicate_succ, Array.replicate_zero, List.push_toArray, List.append_toArray, List.nil_append, List.cons_append]
 have hs2 : (s.size : Int) ≤ 8192 := by omega
 gi_wp2_with (refine ⟨trivial, ?_⟩; gi_at_call 82; refine (all_in s _ _).mono ?_; rintro e w' ⟨rfl, rfl⟩)
 have b0 := (((Boxed.new w 41 (.slice none 0 0)).alloc (.cells #[.int .i64 0] 3)).alloc (.cells #[.int .i64 0] 42)).alloc (.cells #[.string s] 9)
 have b1 := ((Boxed.new (w.alloc (.cells #[.slice none 0 0] 41)) 3 (.int .i64 0)).alloc (.cells #[.int .i64 0] 42)).alloc (.cells #[.string s] 9)
 have b2 := (Boxed.new ((w.alloc (.cells #[.slice none 0 0] 41)).alloc (.cells #[.int .i64 0] 3)) 42 (.int .i64 0)).alloc (.cells #[.string s] 9)
 have b3 := Boxed.new (((w.alloc (.cells #[.slice none 0 0] 41)).alloc (.cells #[.int .i64 0] 3)).alloc (.cells #[.int .i64 0] 42)) 9 (.string s)
 have hB0 : Below w.heap.size w ((((w.alloc (.cells #[.slice none 0 0] 41)).alloc (.cells #[.int .i64 0] 3)).alloc (.cells #[.int .i64 0] 42)).alloc (.cells #[.string s] 9)) :=
  ((((Below.refl _ w).alloc (Nat.le_refl _) _).alloc (by simp) _).alloc (by simp; omega) _).alloc (by simp; omega) _
 have hz : ((((w.alloc (.cells #[.slice none 0 0] 41)).alloc (.cells #[.int .i64 0] 3)).alloc (.cells #[.int .i64 0] 42)).alloc (.cells #[.string s] 9)).heap.size = w.heap.size + 4 := by simp
 simp only [World.size_alloc] at b0 b1 b2 b3
 obtain ⟨W0, hW0⟩ : ∃ W0, ((((w.alloc (.cells #[.slice none 0 0] 41)).alloc (.cells #[.int .i64 0] 3)).alloc (.cells #[.int .i64 0] 42)).alloc (.cells #[.string s] 9)) = W0 := ⟨_, rfl⟩
 rw [hW0] at b0 b1 b2 b3 hB0 hz ⊢
 clear hW0
 apply wpIn_rangeFunc_ownH rfl (by omega) (gf := 129) (lb := #[.pointer (some ⟨w.heap.size + 1 + 1 + 1, 0, none⟩)]) rfl trivial (enters_of Try.func129 (by kernel_rfl) rfl)
  (all_stops _ (by omega) (w.heap.size + 1 + 1 + 1) s (by omega) W0 b3) KS_t (KS_b (by omega)) (Below.refl _ _) (fun _ => rfl)
  (fun pre W => (∃ v, Boxed W w.heap.size 41 v ∧ W.ownsRow w.heap.size 47 4 v pre.length (flat47 (lexes pre)) ∧ True) ∧ (Boxed W (w.heap.size + 1) 3 (.int .i64 0) ∧ Boxed W (w.heap.size + 1 + 1) 42 (.int .i64 0) ∧ Boxed W (w.heap.size + 1 + 1 + 1) 9 (.string s)) ∧ Below w.heap.size w W ∧ lastE pre = 0)
  (fun c pre W => (c = .ret ∧ lastE pre ≠ 0) ∧ (Boxed W w.heap.size 41 (.slice none 0 0) ∧ Boxed W (w.heap.size + 1) 3 (.int .i64 (lastAt pre)) ∧ Boxed W (w.heap.size + 1 + 1) 42 (.int .i64 (lastE pre))) ∧ Below w.heap.size w W)
  (OwnFrom.and (Own.from (holdsRow_own w.heap.size w.heap.size 41 47 4 (fun pre => pre.length) (fun pre => flat47 (lexes pre)) (fun _ _ => True)) _) (OwnFrom.and (OwnFrom.and (Own.from (boxed_own' _ _ _) _) (OwnFrom.and (Own.from (boxed_own' _ _ _) _) (Own.from (boxed_own' _ _ _) _))) (OwnFrom.and (ownFrom_below (Nat.le_refl _) (by omega)) (ownFrom_pure _ _))))
  (fun c => OwnFrom.and (ownFrom_pure _ _) (OwnFrom.and (OwnFrom.and (Own.from (boxed_own' _ _ _) _) (OwnFrom.and (Own.from (boxed_own _ _ (fun pre => .int .i64 (lastAt pre))) _) (Own.from (boxed_own _ _ (fun pre => .int .i64 (lastE pre))) _))) (ownFrom_below (Nat.le_refl _) (by omega))))
  ⟨⟨_, b0, World.ownsRow_nil _ _ _ _, trivial⟩, ⟨b1, b2, b3⟩, hB0, rfl⟩
  (fun x a' W => ∃ Bx, w.heap.size + 4 ≤ Bx ∧ W.heap[Bx]? = some (.cells (spotCells x.2) 87 (0, 0)) ∧ a' = { tmps := #[.string s, undef, .pointer (some ⟨w.heap.size, 0, none⟩), .pointer (some ⟨w.heap.size + 1, 0, none⟩), .pointer (some ⟨w.heap.size + 1 + 1, 0, none⟩), .int .i64 x.1, .pointer (some ⟨Bx, 0, none⟩), .string s, .int .i64 s.size, .bool (decide (8192 < (s.size : Int))), .string s, .func (.func 129) #[] #[.pointer (some ⟨w.heap.size + 1 + 1 + 1, 0, none⟩)], .int .i64 x.1, encSpot x.2, undef, undef, undef, undef, undef, undef, undef, undef, undef, undef, undef, undef, undef, undef, undef, undef, undef, undef, undef, undef, undef, undef, undef], defers := [] })
  (fun x a' _ W W' row hs hg hr => by
   obtain ⟨Bx, g1, g2, g3⟩ := hs
   exact ⟨Bx, g1, blk_own g2 hg hr, g3⟩)
 case hassign =>
  rintro l pre ⟨k, ⟨⟨f0, f1, f2, f3⟩, sz, er⟩⟩ W K ⟨⟨v, hv, hrow, -⟩, ⟨h1, h2, h3⟩, hB, he⟩ hK
  dsimp only [encA, encSpot] at *
  have Hrow := Lib.hid hrow
  have HK := Lib.hid hK
  have hsz : w.heap.size + 4 ≤ W.heap.size := by have := h3.lt; omega
  clear hrow hK
  gi_wp2
  refine HK.out _ _ ((KeepsOthers.alloc _ _).from _) ⟨Below.heap_alloc _ _ _ h3.lt, fun g cs hg => blk_alloc hg _⟩ ⟨⟨v, hv.alloc _, Hrow.out.alloc _, trivial⟩, ⟨h1.alloc _, h2.alloc _, h3.alloc _⟩, hB.alloc hB.size _, he⟩ ⟨W.heap.size, hsz, blk_new W _, rfl⟩
 case hbody =>
  rintro l pre ⟨k, ⟨⟨f0, f1, f2, f3⟩, sz, er⟩⟩ a' W hl hr ⟨⟨v, hv, hrow, -⟩, ⟨h1, h2, h3⟩, hB, he⟩ ⟨Bx, hBx, hX, rfl⟩ hlt
  dsimp only [spotCells, encSpot] at *
  have c0 := blk_cell hX 0
  have c1 := blk_cell hX 1
  have c2 := blk_cell hX 2
  have c3 := blk_cell hX 3
  have c5 := blk_cell hX 5
  simp only [List.getElem?_toArray, List.getElem?_cons_succ, List.getElem?_cons_zero] at c0 c1 c2 c3 c5
  have hs4 : w.heap.size + 4 ≤ W.heap.size := by have := h3.lt; omega
  have hvc := hv.cell
  have hvf := hv.frozen
  by_cases her : er = 0
  ·subst her
   have Hr := Lib.hid hrow
   have HX := Lib.hid hX
   clear hrow hX c5
   have c5 : W.cell? ⟨Bx, 5, none⟩ = some (.int .i64 0) := by rw [blk_cell HX.out 5]; rfl
   gi_wp2_with (gi_at_builtin; refine wpListIn_append_own _ rfl _ _ 41 rfl w.heap.size 47 i0 (.agg #[(.int .i64 0), (.int .u8 0), (.string ⟨#[]⟩), (.int .i64 0)]) 4 40 Try.underlying41 hi hz0 hz1 hz2 rfl (by decide) _ _ _ rfl (Hr.out.alloc _) ⟨W.heap.size, 0, none⟩ 1 1 [.int .i64 f0, .int .u8 f1, .string f2, .int .i64 f3] rfl rfl ?c1 ?c2 ?c3 ?c4 ?c5 ?c6)
   case c1 => exact cells_new W [.int .i64 f0, .int .u8 f1, .string f2, .int .i64 f3] 47
   case c2 => simp [Value.oneCell']
   case c3 => unfold maxLen; omega
   case c4 => omega
   case c5 => simp; omega
   case c6 =>
    intro v' w1 hown' hgrow _
    obtain ⟨g', cap', rfl⟩ := ownsRow_succ hown'
    obtain ⟨hv1, hv2, hr2, hk2, hb2⟩ := hv.appended (by decide) Hr.out (show w.heap.size ≤ W.heap.size by omega) (Nat.le_refl _) hown' hgrow
    have hkeep : ∀ (g : Nat) (cs : Array Value) (t : TypeId), t ≠ 41 → t ≠ 47 → W.heap[g]? = some (.cells cs t (0, 0)) → (w1.setCell ⟨w.heap.size, 0, none⟩ (Value.slice (some ⟨g', 0, none⟩) (pre.length + 1) cap')).heap[g]? = some (.cells cs t (0, 0)) := fun g cs t ht1 ht2 hg => by
     have hgl : g ≠ w.heap.size := fun e => by
      subst e
      rw [show W.heap[w.heap.size]? = _ from hv] at hg
      simp only [Option.some.injEq, Obj.cells.injEq] at hg
      exact ht1 hg.2.1.symm
     rw [Below.heap_setCell _ _ _ _ hgl]
     exact (hgrow.block g (by simp; have := blk_lt hg; omega) (own_ne Hr.out hg (Ne.symm ht2))).trans (blk_alloc hg _)
    have q1 := hkeep _ _ 3 (by decide) (by decide) h1
    have q2 := hkeep _ _ 42 (by decide) (by decide) h2
    have q3 := hkeep _ _ 9 (by decide) (by decide) h3
    have q4 : ∀ (g : Nat) (cs : Array Value), W.heap[g]? = some (.cells cs 87 (0, 0)) → (w1.setCell ⟨w.heap.size, 0, none⟩ (Value.slice (some ⟨g', 0, none⟩) (pre.length + 1) cap')).heap[g]? = some (.cells cs 87 (0, 0)) := fun g cs hg => hkeep g cs 87 (by decide) (by decide) hg
    have q5 := h3
    have hc1 := hv1.cell
    have hf1 := hv1.frozen
    have HQ := Lib.hid (And.intro q1 (And.intro q2 (And.intro q3 (And.intro q4 (And.intro hr2 (And.intro hv2 hown'))))))
    clear q1 q2 q3 q4 hr2 hv2 hown' hkeep hv1 c0 c1 c2 c3 c5 hvc hvf
    gi_wp2
    obtain ⟨q1, q2, q3, q4, hr2, hv2, -⟩ := HQ.out
    refine ⟨hk2.from _, ⟨q3.trans (show W.heap[w.heap.size + 1 + 1 + 1]? = _ from h3).symm, q4⟩, ⟨_, hv2, ?_, trivial⟩, ⟨q1, q2, q3⟩, hB.trans (hb2.mono (by omega)), lastE_snoc _ _⟩
    rw [lexes_snoc, flat47_snoc]
    simpa using hr2
  ·have hb1 : (er == 0) = false := beq_eq_false_iff_ne.2 her
   have hb2 : (er != 0) = true := bne_iff_ne.2 her
   have Hr := Lib.hid hrow
   have HX := Lib.hid hX
   have e1 := h1.cell
   have e2 := h1.frozen
   have e3 := h2.cell
   have e4 := h2.frozen
   have Her := Lib.hid her
   clear hrow hX her
   gi_wp2
   have mixed : Try.prog.follows .mixedOrders = true := by kernel_rfl
   gi_region_with_o (fail)
   all_goals gi_wp2
   all_goals (try go_bits)
   all_goals
    refine ⟨?_, ⟨rfl, by rw [lastE_snoc]; exact Her.out⟩, ⟨?_, ?_, ?_⟩, ?_⟩
    ·exact (((((KeepsOthers.setCell _ _ _).trans (KeepsOthers.setCell _ _ _)).trans (KeepsOthers.setCell _ _ _)).trans (KeepsOthers.drew _)).from _)
    ·exact boxed3 hv _ _ _ _ _ _ (by simp <;> omega)
    ·rw [lastAt_snoc]
     exact boxed3 h1 _ _ _ _ _ _ (by simp <;> omega)
    ·rw [lastE_snoc]
     exact boxed3 h2 _ _ _ _ _ _ (by simp <;> omega)
    ·exact below_drew (((hB.setCell (by simp; try omega) _).setCell (by simp; try omega) _).setCell (by simp; try omega) _)
 case hdone =>
  rintro D ys W hD rfl ⟨⟨v, hv, hrow, -⟩, ⟨h1, h2, h3⟩, hB, he⟩ hK
  have e0 := hv.cell
  have e1 := hv.frozen
  have e2 := h1.cell
  have e3 := h1.frozen
  have e4 := h2.cell
  have e5 := h2.frozen
  have Hr := Lib.hid hrow
  have HK := Lib.hid hK
  obtain ⟨A, c, rfl⟩ := own_slice hrow
  clear hrow hK
  simp only [Exit.inBlock, Exit.then]
  gi_wp2
  have n0 := own_ne Hr.out hv (by decide)
  have n1 := own_ne Hr.out h1 (by decide)
  have n2 := own_ne Hr.out h2 (by decide)
  have hro := own_setCell (own_setCell (own_setCell Hr.out (p := ⟨w.heap.size, 0, none⟩) n0 (Value.slice A (allL s s.size 0).length c)) (p := ⟨w.heap.size + 1, 0, none⟩) n1 (Value.int IntKind.i64 0)) (p := ⟨w.heap.size + 1 + 1, 0, none⟩) n2 (Value.int IntKind.i64 0)
  have q0 := boxed3n hv w.heap.size (w.heap.size + 1) (w.heap.size + 1 + 1) (Value.slice A (allL s s.size 0).length c) (.int .i64 0) (.int .i64 0) (v' := Value.slice A (allL s s.size 0).length c) (by simp <;> omega)
  have q1 := boxed3n h1 w.heap.size (w.heap.size + 1) (w.heap.size + 1 + 1) (Value.slice A (allL s s.size 0).length c) (.int .i64 0) (.int .i64 0) (v' := .int .i64 0) (by simp)
  have q2 := boxed3n h2 w.heap.size (w.heap.size + 1) (w.heap.size + 1 + 1) (Value.slice A (allL s s.size 0).length c) (.int .i64 0) (.int .i64 0) (v' := .int .i64 0) (by simp)
  have hk2 : (((W.setCell ⟨w.heap.size, 0, none⟩ (Value.slice A (allL s s.size 0).length c)).setCell ⟨w.heap.size + 1, 0, none⟩ (.int .i64 0)).setCell ⟨w.heap.size + 1 + 1, 0, none⟩ (.int .i64 0)).heap[D]? = some (.deferred (some [])) := by
   rw [Below.heap_setCell _ _ _ _ (by simp; omega), Below.heap_setCell _ _ _ _ (by simp; omega), Below.heap_setCell _ _ _ _ (by simp; omega)]; exact HK.out
  have hbel : Below w.heap.size w (((W.setCell ⟨w.heap.size, 0, none⟩ (Value.slice A (allL s s.size 0).length c)).setCell ⟨w.heap.size + 1, 0, none⟩ (.int .i64 0)).setCell ⟨w.heap.size + 1 + 1, 0, none⟩ (.int .i64 0)) :=
   ((hB.setCell (show w.heap.size ≤ w.heap.size by omega) _).setCell (show w.heap.size ≤ w.heap.size + 1 by omega) _).setCell (show w.heap.size ≤ w.heap.size + 1 + 1 by omega) _
  clear e0 e1 e2 e3 e4 e5 hv h1 h2 h3 hB b0 b1 b2 b3 n0 n1 n2
  generalize (((W.setCell ⟨w.heap.size, 0, none⟩ (Value.slice A (allL s s.size 0).length c)).setCell ⟨w.heap.size + 1, 0, none⟩ (.int .i64 0)).setCell ⟨w.heap.size + 1 + 1, 0, none⟩ (.int .i64 0)) = W2 at *
  refine ⟨by simp, .inl ⟨_, _, rfl, run_takeDeferred hk2, ?_⟩⟩
  have hbd : Below w.heap.size W2 (W2.putObj D (.deferred none)) := belowK_b (w := w) (Nat.le_refl _) W2 D (.deferred (some [])) (.deferred none) (by omega) hk2 rfl rfl
  have p0 := (q0.kept (grownBy_putObj' W2 D (.deferred none)) (by simp; omega)).cell
  have p1 := (q1.kept (grownBy_putObj' W2 D (.deferred none)) (by simp; omega)).cell
  have p2 := (q2.kept (grownBy_putObj' W2 D (.deferred none)) (by simp; omega)).cell
  have hlex : lexP s = (lexes (allL s s.size 0), 0, 0) := by unfold lexP; rw [if_neg (by omega), if_pos he]
  have hro2 := ownsRow_putObj hro (.deferred none) hk2 rfl
  rw [show (allL s s.size 0).length = (lexes (allL s s.size 0)).length from (lexes_length _).symm] at hro2 p0 ⊢
  refine ⟨_, ?_, _, _, _, _, rfl, hlex, own_R47 hro2 _ (Nat.le_refl _), hbel.trans hbd⟩
  simp [results, Try.results45, go_sem, p0, p1, p2]
 case hstop =>
  rintro D c pre W hD hpre ⟨⟨rfl, he⟩, ⟨h0, h1, h2⟩, hB⟩ hK
  have hw := allL_whole s s.size 0 pre hpre he
  have hlex : lexP s = ([], lastAt pre, lastE pre) := by unfold lexP; rw [if_neg (by omega), ← hw, if_neg he]
  gi_wp2
  refine ⟨by simp, .inl ⟨_, _, rfl, run_takeDeferred hK, ?_⟩⟩
  have hbd : Below w.heap.size W (W.putObj D (.deferred none)) := belowK_b (w := w) (Nat.le_refl _) W D (.deferred (some [])) (.deferred none) (by omega) hK rfl rfl
  have p0 := (h0.kept (grownBy_putObj' W D (.deferred none)) (by simp; omega)).cell
  have p1 := (h1.kept (grownBy_putObj' W D (.deferred none)) (by simp; omega)).cell
  have p2 := (h2.kept (grownBy_putObj' W D (.deferred none)) (by simp; omega)).cell
  refine ⟨_, ?_, _, _, _, _, rfl, hlex, Kd.R_nil _ _ _ _ _, hB.trans hbd⟩
  simp [results, Try.results45, go_sem, p0, p1, p2]
set_option maxHeartbeats 1000000 in
theorem lexOf_long (s : ByteArray) (hs : 8192 < s.size) (w : World) :
  Calls Try.prog 45 #[.string s] w fun e W' => e = .returned (.tuple #[.slice none 0 0, .int .i64 0, .int .i64 4]) ∧ Below w.heap.size w W' := by
 have hs2 : (8192 : Int) < (s.size : Int) := by omega
 go_enter Try.func45, Try.ntmps45
 go_wp2
 refine bodyPost_ret (v := .tuple #[.slice none 0 0, .int .i64 0, .int .i64 4]) (by simp [results, Try.results45, go_sem]) rfl ⟨rfl, ?_⟩
 exact (((Below.refl _ w).alloc (Nat.le_refl _) _).alloc (by simp) _).alloc (by simp; omega) _
def lex_Of.f (a0 : ByteArray) : Option (List S47 × Int × Int) := some (lexP a0)
theorem lex_Of.calls (a0 : ByteArray) (r1 : List S47) (r2 r3 : Int) (w : World) (h : lex_Of.f a0 = some (r1, r2, r3)) :
  Calls Try.prog 45 #[.string a0] w fun e w' => ∃ v0_ : Value, e = .returned (.tuple #[v0_, .int .i64 r2, .int .i64 r3]) ∧ Kd.R k47 47 w' w.heap.size (fun _ => True) v0_ r1 ∧ Below w.heap.size w w' := by
 have h1 : lexP a0 = (r1, r2, r3) := Option.some.inj h
 by_cases hs : a0.size ≤ 8192
 ·refine (callsIn_wide.1 (lexOf_in a0 hs w)).mono ?_
  rintro e W' ⟨v, l, a, b, rfl, h2, h3, h4⟩
  rw [h1] at h2
  simp only [Prod.mk.injEq] at h2
  obtain ⟨rfl, rfl, rfl⟩ := h2
  exact ⟨v, rfl, h3, h4⟩
 ·have h2 : lexP a0 = ([], 0, 4) := if_pos (by omega)
  rw [h1] at h2
  simp only [Prod.mk.injEq] at h2
  obtain ⟨rfl, rfl, rfl⟩ := h2
  refine (lexOf_long a0 (by omega) w).mono ?_
  rintro e W' ⟨rfl, h4⟩
  exact ⟨_, rfl, Kd.R_nil _ _ _ _ _, h4⟩
end Go.Proofs.Ythcmfjpheanphaa.Pr
