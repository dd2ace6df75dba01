/- One law for drawing regions in which every operation's value is the same in each order. -/
import Derived.Orders
import Derived.Deep.RegionHeld
namespace Go.Det
open Go
set_option linter.unusedVariables false
variable {P : Program} {ops : Array Oper} {Q : Exit → Act → World → Prop} {S : World → Prop}

/-- no way out -/
def NoOut : Exit → Act → World → Prop := fun _ _ _ => False
theorem noOut_lets : ¬ LetsOut NoOut := fun ⟨_, _, h⟩ => h
theorem upon_imp {o : Oper} {a : Act} {K K' : Act → World → Prop} {r : Result Next} (h : ∀ a w, K a w → K' a w) (hh : o.upon P a K NoOut r) : o.upon P a K' Q r := by
  cases r with
  | ok n w' =>
    cases n <;> simp only [Oper.upon] at hh ⊢ <;>
      first
        | exact h _ _ hh
        | exact Calls.mono hh (fun e w'' he => by cases e <;> first | exact h _ _ he | exact he.elim | exact (noOut_lets he).elim)
        | exact Rows.mono hh (fun _ _ he => h _ _ he)
  | halt x w' => cases x <;> simp only [Oper.upon] at hh ⊢ <;> exact hh.elim
theorem put_inj {a b : Act} {dst : Option Tmp} {u v : Value} (hs : b.tmps.size = a.tmps.size) (h : a.put dst u = a.put dst v) : b.put dst u = b.put dst v := by
  cases dst with
  | none => rfl
  | some d =>
    by_cases hd : d < a.tmps.size
    · have h1 : (a.put (some d) u).tmps[d]? = (a.put (some d) v).tmps[d]? := by rw [h]
      simp only [Act.put, Array.getElem?_setIfInBounds, if_pos hd, if_true, Option.some.injEq] at h1
      rw [h1]
    · simp only [Act.put]
      rw [Array.setIfInBounds_eq_of_size_le (by rw [hs]; exact Nat.le_of_not_lt hd), Array.setIfInBounds_eq_of_size_le (by rw [hs]; exact Nat.le_of_not_lt hd)]
theorem upon_same {o : Oper} {x y : Act} {v : Value} {r : Result Next} (hs : y.tmps.size = x.tmps.size) (hh : o.upon P x (fun a' w' => a' = x.put o.dst v ∧ S w') NoOut r) :
    o.upon P y (fun a' w' => a' = y.put o.dst v ∧ S w') NoOut r := by
  cases r with
  | ok n w' =>
    cases n <;> simp only [Oper.upon] at hh ⊢ <;>
      first
        | exact ⟨put_inj hs hh.1, hh.2⟩
        | exact Calls.mono hh (fun e w'' he => by cases e <;> first | exact ⟨put_inj hs he.1, he.2⟩ | exact he.elim | exact (noOut_lets he).elim)
        | exact Rows.mono hh (fun _ _ he => ⟨put_inj hs he.1, he.2⟩)
        | skip
    rename_i d
    exfalso
    have := congrArg (fun a : Act => a.defers.length) hh.1
    cases hd : o.dst <;> simp [hd, Act.put] at this
  | halt x w' => cases x <;> simp only [Oper.upon] at hh ⊢ <;> exact hh.elim

/-- an operation's step at a frame: carried out, it yields 'v' from every world that meets S, and S holds behind it; or it is not wanted -/
def StepV (P : Program) (ops : Array Oper) (S : World → Prop) (a : Act) (o : Oper) (v : Value) : Prop :=
  (Region.wanted o (yielded ops a.tmps) = true ∧ ∀ w, S w → o.wp P a w (fun a' w' => a' = a.put o.dst v ∧ S w') NoOut) ∨
  (Region.wanted o (yielded ops a.tmps) = false ∧ v = undef)
/-- the operations one behind the other, in the text's order -/
def SeqL (P : Program) (ops : Array Oper) (S : World → Prop) (R : Act → Prop) : List Oper → Act → Prop
  | [], a => R a
  | o :: rest, a => ∃ v, StepV P ops S a o v ∧ SeqL P ops S R rest (a.put o.dst v)

/-- the check of a region: edges lead back; destinations are distinct; who reads a temporary that another one writes waits for it, or is waited for -/
def okAt (ops : Array Oper) (i : Nat) (o : Oper) : Bool :=
  (o.after.all fun e => decide (e.on < i)) &&
  ((List.range ops.size).all fun j => match ops[j]? with
    | none => true
    | some oj =>
      (match oj.dst with
        | none => true
        | some t => (j == i || o.dst != some t) &&
          (!(o.looksAt ops).contains t || (o.after.any fun e => Region.binds .any e && e.on == j) || (j != i && oj.after.any fun e => Region.binds .any e && e.on == i)))) &&
  (match o.op with | .select _ _ => false | _ => true)
def okOps (ops : Array Oper) : Bool := (List.range ops.size).all fun i => match ops[i]? with | none => true | some o => okAt ops i o

structure Ok (ops : Array Oper) : Prop where
  back : ∀ (i : Nat) (o : Oper), ops[i]? = some o → ∀ e ∈ o.after, e.on < i
  apart : ∀ (i : Nat) (o : Oper) (j : Nat) (oj : Oper) (t : Tmp), ops[i]? = some o → ops[j]? = some oj → oj.dst = some t → j ≠ i → o.dst ≠ some t
  reads : ∀ (i : Nat) (o : Oper) (j : Nat) (oj : Oper) (t : Tmp), ops[i]? = some o → ops[j]? = some oj → oj.dst = some t → t ∈ o.looksAt ops →
    (∃ e ∈ o.after, Region.binds .any e = true ∧ e.on = j) ∨ (j ≠ i ∧ ∃ e ∈ oj.after, Region.binds .any e = true ∧ e.on = i)
  plain : ∀ (i : Nat) (o : Oper), ops[i]? = some o → ∀ cs b, o.op ≠ .select cs b

theorem lt_of_some {i : Nat} {o : Oper} (h : ops[i]? = some o) : i < ops.size := (Array.getElem?_eq_some_iff.1 h).1
theorem okOps_spec (h : okOps ops = true) : Ok ops := by
  have hat : ∀ (i : Nat) (o : Oper), ops[i]? = some o → okAt ops i o = true := fun i o hi => by
    have := List.all_eq_true.1 h i (List.mem_range.2 (lt_of_some hi))
    simpa [hi] using this
  have pair : ∀ (i : Nat) (o : Oper) (j : Nat) (oj : Oper) (t : Tmp), ops[i]? = some o → ops[j]? = some oj → oj.dst = some t → ((j == i || o.dst != some t) &&
          (!(o.looksAt ops).contains t || (o.after.any fun e => Region.binds .any e && e.on == j) || (j != i && oj.after.any fun e => Region.binds .any e && e.on == i))) = true := fun i o j oj t hi hj hd => by
    have := hat i o hi
    simp only [okAt, Bool.and_eq_true] at this
    have h2 := List.all_eq_true.1 this.1.2 j (List.mem_range.2 (lt_of_some hj))
    simp only [hj, hd] at h2
    exact h2
  refine ⟨fun i o hi e he => ?_, fun i o j oj t hi hj hd hne => ?_, fun i o j oj t hi hj hd ht => ?_, fun i o hi cs b hs => ?_⟩
  · have := hat i o hi
    simp only [okAt, Bool.and_eq_true] at this
    have := (Array.all_eq_true_iff_forall_mem.1 this.1.1) e he
    simpa using this
  · have := pair i o j oj t hi hj hd
    simp only [Bool.and_eq_true, Bool.or_eq_true, beq_iff_eq, bne_iff_ne] at this
    rcases this.1 with h1 | h1
    · exact absurd h1 hne
    · exact h1
  · have := pair i o j oj t hi hj hd
    simp only [Bool.and_eq_true, Bool.or_eq_true, beq_iff_eq, bne_iff_ne, Bool.not_eq_true', Array.any_eq_true'] at this
    rcases this.2 with (h1 | h1) | ⟨h0, h1⟩
    · rw [List.contains_eq_mem] at h1
      simp [ht] at h1
    · obtain ⟨e, he, h2⟩ := h1
      exact .inl ⟨e, he, by simpa using h2⟩
    · obtain ⟨e, he, h2⟩ := h1
      exact .inr ⟨h0, e, he, by simpa using h2⟩
  · have := hat i o hi
    simp only [okAt, Bool.and_eq_true, hs] at this
    exact absurd this.2 (by simp)

/-- a frame: the base, with the values of the listed operations -/
def Fr (ops : Array Oper) (val : Nat → Value) (a : Act) (L : Nat → Bool) (x : Act) : Prop :=
  x.defers = a.defers ∧ x.tmps.size = a.tmps.size ∧ ∀ t, t < a.tmps.size →
    (∀ i o, ops[i]? = some o → L i = true → o.dst = some t → x.tmps[t]? = some (val i)) ∧
    ((∀ i o, ops[i]? = some o → L i = true → o.dst ≠ some t) → x.tmps[t]? = a.tmps[t]?)
theorem fr_start (val : Nat → Value) (a : Act) (L : Nat → Bool) (h : ∀ i, i < ops.size → L i = false) : Fr ops val a L a :=
  ⟨rfl, rfl, fun t ht => ⟨fun i o hi hl => (by rw [h i (lt_of_some hi)] at hl; exact absurd hl (by simp)), fun _ => rfl⟩⟩
theorem fr_congr {val val' : Nat → Value} {a x : Act} {L L' : Nat → Bool} (h : Fr ops val a L x) (hL : ∀ i, i < ops.size → L' i = L i) (hv : ∀ i, L i = true → val' i = val i) : Fr ops val' a L' x :=
  ⟨h.1, h.2.1, fun t ht => ⟨fun i o hi hl hd => by
      have hl' : L i = true := by rw [← hL i (lt_of_some hi)]; exact hl
      rw [hv i hl']; exact (h.2.2 t ht).1 i o hi hl' hd,
    fun hn => (h.2.2 t ht).2 fun i o hi hl => hn i o hi (by rw [hL i (lt_of_some hi)]; exact hl)⟩⟩
theorem fr_put (ok : Ok ops) {val : Nat → Value} {a x : Act} {L L' : Nat → Bool} {i : Nat} {o : Oper} (hi : ops[i]? = some o) (h : Fr ops val a L x)
    (hL : ∀ j, j < ops.size → L' j = (L j || j == i)) : Fr ops val a L' (x.put o.dst (val i)) := by
  obtain ⟨h1, h2, h3⟩ := h
  cases hd : o.dst with
  | none =>
    refine ⟨h1, h2, fun t ht => ⟨fun j oj hj hl hdj => ?_, fun hn => ?_⟩⟩
    · rw [hL j (lt_of_some hj)] at hl
      rcases Bool.or_eq_true .. ▸ hl with hl | hl
      · exact (h3 t ht).1 j oj hj hl hdj
      · have : j = i := by simpa using hl
        subst this
        rw [hi] at hj
        cases hj
        rw [hd] at hdj
        cases hdj
    · exact (h3 t ht).2 fun j oj hj hl => hn j oj hj (by rw [hL j (lt_of_some hj), hl]; rfl)
  | some d =>
    refine ⟨h1, by simp [Act.put, h2], fun t ht => ?_⟩
    by_cases htd : d = t
    · subst htd
      have hv : (x.put (some d) (val i)).tmps[d]? = some (val i) := by simp [Act.put, h2, ht]
      refine ⟨fun j oj hj hl hdj => ?_, fun hn => absurd hd (hn i o hi (by rw [hL i (lt_of_some hi)]; simp))⟩
      by_cases hji : j = i
      · subst hji; exact hv
      · exact absurd hd (ok.apart i o j oj d hi hj hdj hji)
    · have hv : (x.put (some d) (val i)).tmps[t]? = x.tmps[t]? := by simp [Act.put, Array.getElem?_setIfInBounds_ne htd]
      rw [hv]
      refine ⟨fun j oj hj hl hdj => ?_, fun hn => (h3 t ht).2 fun j oj hj hl => hn j oj hj (by rw [hL j (lt_of_some hj), hl]; rfl)⟩
      rw [hL j (lt_of_some hj)] at hl
      rcases Bool.or_eq_true .. ▸ hl with hl | hl
      · exact (h3 t ht).1 j oj hj hl hdj
      · have : j = i := by simpa using hl
        subst this
        rw [hi] at hj
        cases hj
        rw [hd] at hdj
        cases hdj
        exact absurd rfl htd
theorem fr_same {val : Nat → Value} {a x y : Act} {L L' : Nat → Bool} (hx : Fr ops val a L x) (hy : Fr ops val a L' y) (t : Tmp)
    (h : ∀ j oj, ops[j]? = some oj → oj.dst = some t → L j = L' j) : x.tmps[t]? = y.tmps[t]? := by
  by_cases ht : t < a.tmps.size
  · by_cases hex : ∃ j oj, ops[j]? = some oj ∧ L j = true ∧ oj.dst = some t
    · obtain ⟨j, oj, hj, hl, hd⟩ := hex
      rw [(hx.2.2 t ht).1 j oj hj hl hd, (hy.2.2 t ht).1 j oj hj (by rw [← h j oj hj hd]; exact hl) hd]
    · have hn : ∀ j oj, ops[j]? = some oj → L j = true → oj.dst ≠ some t := fun j oj hj hl hd => hex ⟨j, oj, hj, hl, hd⟩
      rw [(hx.2.2 t ht).2 hn, (hy.2.2 t ht).2 fun j oj hj hl hd => hn j oj hj (by rw [h j oj hj hd]; exact hl) hd]
  · rw [Array.getElem?_eq_none (by rw [hx.2.1]; exact Nat.le_of_not_lt ht), Array.getElem?_eq_none (by rw [hy.2.1]; exact Nat.le_of_not_lt ht)]
theorem fr_eq {val : Nat → Value} {a x y : Act} {L L' : Nat → Bool} (hx : Fr ops val a L x) (hy : Fr ops val a L' y) (h : ∀ j, j < ops.size → L j = L' j) : x = y := by
  have h1 : x.tmps = y.tmps := Array.ext_getElem? fun t => fr_same hx hy t fun j oj hj _ => h j (lt_of_some hj)
  have h2 : x.defers = y.defers := hx.1.trans hy.1.symm
  cases x; cases y; simp_all

theorem step_same (ok : Ok ops) {val : Nat → Value} {a x y : Act} {L L' : Nat → Bool} {i : Nat} {o : Oper} {v : Value} (hi : ops[i]? = some o) (hx : Fr ops val a L x) (hy : Fr ops val a L' y)
    (h : ∀ j oj t, ops[j]? = some oj → oj.dst = some t → t ∈ o.looksAt ops → L j = L' j) (hs : StepV P ops S x o v) : StepV P ops S y o v := by
  have hev : execOp y.eval o = execOp x.eval o := execOp_congr o (ok.plain i o hi) fun z hz => by
    cases z with
    | tmp t =>
      have := fr_same hx hy t fun j oj hj hd => h j oj t hj hd (List.mem_append_left _ (List.mem_filterMap.2 ⟨.tmp t, by simpa using hz, rfl⟩))
      simp [Act.eval, Array.getD_eq_getD_getElem?, this]
    | _ => rfl
  have hw : Region.wanted o (yielded ops y.tmps) = Region.wanted o (yielded ops x.tmps) := by
    unfold Region.wanted
    cases hg : o.guard with
    | none => rfl
    | some gw =>
      obtain ⟨g, want⟩ := gw
      have : yielded ops y.tmps g = yielded ops x.tmps g := by
        unfold yielded
        cases ht : (ops[g]?).bind (·.dst) with
        | none => rfl
        | some t =>
          have := fr_same hx hy t fun j oj hj hd => h j oj t hj hd (by simp [Oper.looksAt, hg, ht])
          simp [this]
      simp only [this]
  have hsz : y.tmps.size = x.tmps.size := by rw [hx.2.1, hy.2.1]
  rcases hs with ⟨h1, h2⟩ | h1
  · refine .inl ⟨by rw [hw]; exact h1, fun w hS => ?_⟩
    have := h2 w hS
    unfold Oper.wp at this ⊢
    rw [hev]
    exact upon_same hsz this
  · exact .inr (by rw [hw]; exact h1)

def cnt (L : Nat → Bool) : Nat → Nat
  | 0 => 0
  | k + 1 => cnt L k + (if L k = true then 0 else 1)
theorem cnt_zero (L : Nat → Bool) : ∀ n, cnt L n = 0 → ∀ i, i < n → L i = true
  | 0, _, i, hi => absurd hi (by omega)
  | n + 1, h, i, hi => by
    simp only [cnt] at h
    by_cases hin : i = n
    · subst hin
      by_cases hl : L i = true
      · exact hl
      · rw [if_neg hl] at h; omega
    · exact cnt_zero L n (by omega) i (by omega)
theorem cnt_set (L L' : Nat → Bool) (i : Nat) (hi : L i = false) (hL : ∀ j, L' j = (L j || j == i)) : ∀ n, (i < n → cnt L' n + 1 = cnt L n) ∧ (n ≤ i → cnt L' n = cnt L n)
  | 0 => ⟨fun h => absurd h (by omega), fun _ => rfl⟩
  | n + 1 => by
    obtain ⟨h1, h2⟩ := cnt_set L L' i hi hL n
    simp only [cnt, hL n]
    refine ⟨fun h => ?_, fun h => ?_⟩
    · by_cases hin : i = n
      · subst hin
        rw [h2 (by omega), hi]
        simp
      · have := h1 (by omega)
        simp only [show (n == i) = false by simpa using Ne.symm hin, Bool.or_false]
        omega
    · rw [h2 (by omega)]
      simp only [show (n == i) = false by simp; omega, Bool.or_false]

/-- who waits for whom: by a chain of edges -/
def waits (ops : Array Oper) : Nat → Nat → Nat → Bool
  | 0, _, _ => false
  | n + 1, j, i => match ops[j]? with
    | none => false
    | some o => o.after.any fun e => Region.binds .any e && (e.on == i || waits ops n e.on i)
def tailOk (ops : Array Oper) (k : Nat) : Bool := (List.range ops.size).all fun j => decide (j < k) || (List.range j).all fun i => waits ops ops.size j i
theorem waits_listed {listed : Array Bool} (hcl : ∀ (i : Nat) (o : Oper), ops[i]? = some o → listed.getD i false = true → ∀ e ∈ o.after, Region.binds .any e = true → listed.getD e.on false = true) :
    ∀ (n j i : Nat), (∀ (o : Oper), ops[j]? = some o → ∀ e ∈ o.after, Region.binds .any e = true → listed.getD e.on false = true) → waits ops n j i = true → listed.getD i false = true
  | 0, j, i, _, h => by simp [waits] at h
  | n + 1, j, i, hj, h => by
    simp only [waits] at h
    split at h
    · cases h
    · rename_i o ho
      obtain ⟨e, he, h2⟩ := Array.any_eq_true'.1 h
      simp only [Bool.and_eq_true, Bool.or_eq_true, beq_iff_eq] at h2
      have hl := hj o ho e he h2.1
      rcases h2.2 with h3 | h3
      · rw [← h3]; exact hl
      · exact waits_listed hcl n e.on i (fun o' ho' => hcl e.on o' ho' hl) h3
theorem tail_waits {k : Nat} (ht : tailOk ops k = true) {j i : Nat} (hj : j < ops.size) (hk : k ≤ j) (hi : i < j) : waits ops ops.size j i = true := by
  have := List.all_eq_true.1 ht j (List.mem_range.2 hj)
  simp only [Bool.or_eq_true, decide_eq_true_eq] at this
  rcases this with h | h
  · omega
  · exact List.all_eq_true.1 h i (List.mem_range.2 hi)
theorem getD_lt {listed : Array Bool} {i : Nat} (h : i < listed.size) (d : Bool) : listed.getD i d = listed.getD i false := by
  simp [Array.getD_eq_getD_getElem?, Array.getElem?_eq_getElem h]
theorem ready_iff {listed : Array Bool} (hsz : listed.size = ops.size) {i : Nat} {o : Oper} (ho : ops[i]? = some o) :
    i ∈ Region.ready .any ops listed ↔ listed.getD i false = false ∧ ∀ e ∈ o.after, Region.binds .any e = true → listed.getD e.on false = true := by
  have hi : i < ops.size := lt_of_some ho
  unfold Region.ready
  rw [List.mem_filter, ho, getD_lt (by omega)]
  simp only [List.mem_range, hi, true_and, Bool.and_eq_true, Bool.not_eq_true', Option.map_some, Option.getD_some]
  rw [Array.all_eq_true_iff_forall_mem]
  refine and_congr Iff.rfl (forall_congr' fun e => forall_congr' fun he => ?_)
  cases Region.binds .any e <;> simp
theorem ready_lt {listed : Array Bool} {i : Nat} (h : i ∈ Region.ready .any ops listed) : i < ops.size := by
  unfold Region.ready at h
  rw [List.mem_filter] at h
  exact List.mem_range.1 h.1
theorem least_ready (ok : Ok ops) {listed : Array Bool} (hsz : listed.size = ops.size) (hr : Region.ready .any ops listed = []) (i : Nat) (hi : i < ops.size) : listed.getD i false = true := by
  induction i using Nat.strongRecOn with
  | ind i ih =>
    cases hl : listed.getD i false with
    | true => rfl
    | false =>
      exfalso
      have ho : ops[i]? = some ops[i] := Array.getElem?_eq_getElem hi
      have hmem := (ready_iff hsz ho).2 ⟨hl, fun e he _ => by
        have hb := ok.back i _ ho e he
        exact ih e.on hb (by omega)⟩
      rw [hr] at hmem
      cases hmem
theorem set_getD {listed : Array Bool} {i : Nat} (hil : i < listed.size) (j : Nat) : (listed.setIfInBounds i true).getD j false = (listed.getD j false || j == i) := by
  simp only [Array.getD_eq_getD_getElem?, Array.getElem?_setIfInBounds]
  by_cases hij : i = j
  · subst hij; simp [hil]
  · simp [hij, Ne.symm hij]
theorem drop_cons {m : Nat} {o : Oper} (ho : ops[m]? = some o) : ops.toList.drop m = o :: ops.toList.drop (m + 1) := by
  have hm : m < ops.toList.length := by simpa using lt_of_some ho
  rw [List.drop_eq_getElem_cons hm]
  congr 1
  have h1 : ops.toList[m]? = some o := by simpa using ho
  rw [List.getElem?_eq_getElem hm] at h1
  exact Option.some.inj h1

theorem any_tail (ok : Ok ops) {k : Nat} (ht : tailOk ops k = true) : ∀ (fuel m : Nat) (listed : Array Bool) (a : Act) (w : World), listed.size = ops.size → (∀ i, i < ops.size → listed.getD i false = decide (i < m)) →
    k ≤ m → m ≤ ops.size → ops.size ≤ fuel + m → wpList P ops Q (ops.toList.drop m) a w → wpAny P .any ops Q fuel listed a w := by
  intro fuel
  induction fuel with
  | zero =>
    intro m listed a w hsz hL hk hm hf h
    obtain rfl : m = ops.size := by omega
    rw [List.drop_eq_nil_of_le (by simp)] at h
    refine ⟨?_, h⟩
    rw [List.eq_nil_iff_forall_not_mem]
    intro i hi
    have hi' := ready_lt hi
    have := ((ready_iff hsz (Array.getElem?_eq_getElem hi')).1 hi).1
    rw [hL i hi'] at this
    simp at this
    omega
  | succ fuel ih =>
    intro m listed a w hsz hL hk hm hf h
    refine ⟨fun hr => ?_, fun i hi => ?_⟩
    · have hms : m = ops.size := by
        rcases Nat.lt_or_ge m ops.size with h1 | h1
        · have := least_ready ok hsz hr m h1
          rw [hL m h1] at this
          simp at this
        · omega
      subst hms
      rw [List.drop_eq_nil_of_le (by simp)] at h
      exact h
    · have hi' := ready_lt hi
      obtain ⟨h1, h2⟩ := (ready_iff hsz (Array.getElem?_eq_getElem hi')).1 hi
      rw [hL i hi'] at h1
      have hmi : m ≤ i := by simpa using h1
      have him : i = m := by
        rcases Nat.lt_or_ge m i with h3 | h3
        · exfalso
          have hw := tail_waits ht hi' (by omega) h3
          have hcl : ∀ (j : Nat) (o : Oper), ops[j]? = some o → listed.getD j false = true → ∀ e ∈ o.after, Region.binds .any e = true → listed.getD e.on false = true := fun j o hj hl e he _ => by
            have hb := ok.back j o hj e he
            have hj' := lt_of_some hj
            rw [hL j hj'] at hl
            rw [hL e.on (by omega)]
            simp at hl ⊢
            omega
          have := waits_listed hcl ops.size i m (fun o ho e he hb => by
            rw [Array.getElem?_eq_getElem hi'] at ho
            cases ho
            exact h2 e he hb) hw
          rw [hL m (by omega)] at this
          simp at this
        · omega
      subst him
      have ho : ops[i]? = some ops[i] := Array.getElem?_eq_getElem hi'
      rw [drop_cons ho] at h
      have hnext : ∀ a w, wpList P ops Q (ops.toList.drop (i + 1)) a w → wpAny P .any ops Q fuel (listed.setIfInBounds i true) a w := fun a w h' =>
        ih (i + 1) _ a w (by simpa using hsz) (fun j hj => by
          rw [set_getD (by omega), hL j hj, Bool.eq_iff_iff]; simp; omega) (by omega) (by omega) (by omega) h'
      unfold wpOp
      rw [ho]
      simp only
      unfold wpList at h
      split
      · rename_i hw
        rw [if_pos hw] at h
        exact h.imp (Oper.wp_mono hnext) id
      · rename_i hw
        rw [if_neg hw] at h
        exact hnext _ _ h

theorem any_det (ok : Ok ops) {k : Nat} (hkn : k ≤ ops.size) (ht : tailOk ops k = true) {val : Nat → Value} {a0 : Act} (hsteps : ∀ i o, i < k → ops[i]? = some o → ∃ x, Fr ops val a0 (fun j => decide (j < i)) x ∧ StepV P ops S x o (val i))
    (hend : ∀ x, Fr ops val a0 (fun j => decide (j < k)) x → ∀ w, S w → wpList P ops Q (ops.toList.drop k) x w) : ∀ (fuel : Nat) (listed : Array Bool) (a : Act) (w : World), listed.size = ops.size →
    cnt (fun i => listed.getD i false) ops.size ≤ fuel → (∀ i o, ops[i]? = some o → listed.getD i false = true → ∀ e ∈ o.after, Region.binds .any e = true → listed.getD e.on false = true) →
    (∀ i, i < ops.size → listed.getD i false = true → i < k) →
    Fr ops val a0 (fun i => listed.getD i false) a → S w → wpAny P .any ops Q fuel listed a w := by
  intro fuel
  induction fuel with
  | zero =>
    intro listed a w hsz hc hcl hlk hf hS
    have hall := cnt_zero _ _ (Nat.le_zero.1 hc)
    have hks : k = ops.size := by
      rcases Nat.lt_or_ge k ops.size with h | h
      · have := hlk k h (hall k h); omega
      · omega
    refine any_tail ok ht 0 k listed a w hsz (fun i hi => by rw [hall i hi]; simp; omega) (Nat.le_refl _) hkn (by omega) (hend a (fr_congr hf (fun j hj => ?_) (fun _ _ => rfl)) w hS)
    rw [hall j hj]; simp; omega
  | succ fuel ih =>
    intro listed a w hsz hc hcl hlk hf hS
    by_cases hdone : ∀ i, i < k → listed.getD i false = true
    · have hL : ∀ i, i < ops.size → listed.getD i false = decide (i < k) := fun i hi => by
        by_cases hik : i < k
        · rw [hdone i hik]; simp [hik]
        · have : listed.getD i false ≠ true := fun h => hik (hlk i hi h)
          simp only [Bool.not_eq_true] at this
          rw [this]; simp [hik]
      have hcnt : ops.size ≤ cnt (fun i => listed.getD i false) ops.size + k := by
        have : ∀ n, n ≤ ops.size → n ≤ cnt (fun i => listed.getD i false) n + k := fun n => by
          induction n with
          | zero => intro _; omega
          | succ n ihn =>
            intro hn
            simp only [cnt]
            have := ihn (by omega)
            have hLn := hL n (by omega)
            by_cases hnk : n < k
            · split <;> omega
            · rw [if_neg (by rw [hLn]; simp [hnk])]
              omega
        exact this _ (Nat.le_refl _)
      exact any_tail ok ht (fuel + 1) k listed a w hsz hL (Nat.le_refl _) hkn (by omega) (hend a (fr_congr hf (fun j hj => (hL j hj).symm) (fun _ _ => rfl)) w hS)
    refine ⟨fun hr => absurd (fun i hi => least_ready ok hsz hr i (by omega)) hdone, fun i hi => ?_⟩
    have hin : i < ops.size := ready_lt hi
    have hil : i < listed.size := by omega
    obtain ⟨o, ho⟩ : ∃ o, ops[i]? = some o := ⟨_, Array.getElem?_eq_getElem hin⟩
    obtain ⟨hlf, hdeps⟩ := (ready_iff hsz ho).1 hi
    have hik : i < k := by
      rcases Nat.lt_or_ge i k with h | h
      · exact h
      · exfalso
        refine hdone fun j hj => ?_
        have hw := tail_waits ht hin h (show j < i by omega)
        exact waits_listed hcl ops.size i j (fun o' ho' e he hb => by
          rw [ho] at ho'
          cases ho'
          exact hdeps e he hb) hw
    have hset : ∀ j, (listed.setIfInBounds i true).getD j false = (listed.getD j false || j == i) := fun j => set_getD hil j
    obtain ⟨x, hfx, hsx⟩ := hsteps i o hik ho
    have hst : StepV P ops S a o (val i) := step_same ok ho hfx hf (fun j oj t hj hd ht => by
      rcases ok.reads i o j oj t ho hj hd ht with ⟨e, he, hb, rfl⟩ | ⟨hne, e, he, hb, hei⟩
      · rw [hdeps e he hb]
        simpa using ok.back i o ho e he
      · have hlt : i < j := hei ▸ ok.back j oj hj e he
        have : listed.getD j false = false := by
          cases hlj : listed.getD j false with
          | false => rfl
          | true =>
            have := hcl j oj hj hlj e he hb
            rw [hei, hlf] at this
            cases this
        rw [this]
        simp; omega) hsx
    have hnext : ∀ w', S w' → wpAny P .any ops Q fuel (listed.setIfInBounds i true) (a.put o.dst (val i)) w' := fun w' hS' => by
      refine ih _ _ _ (by simpa using hsz) ?_ ?_ ?_ ?_ hS'
      · have := (cnt_set (fun j => listed.getD j false) (fun j => (listed.setIfInBounds i true).getD j false) i hlf hset ops.size).1 hin
        omega
      · intro j oj hj hlj e he hb
        rw [hset] at hlj ⊢
        rcases Bool.or_eq_true .. ▸ hlj with h | h
        · rw [hcl j oj hj h e he hb]; rfl
        · have : j = i := by simpa using h
          subst this
          rw [ho] at hj
          cases hj
          rw [hdeps e he hb]; rfl
      · intro j hj hlj
        rw [hset] at hlj
        rcases Bool.or_eq_true .. ▸ hlj with h | h
        · exact hlk j hj h
        · have : j = i := by simpa using h
          omega
      · exact fr_put ok ho hf fun j _ => hset j
    unfold wpOp
    rw [ho]
    simp only
    rcases hst with ⟨hw, hrun⟩ | ⟨hw, hv⟩
    · rw [if_pos hw]
      refine .inl ?_
      have := hrun w hS
      unfold Oper.wp at this ⊢
      exact upon_imp (fun a' w' ⟨ha', hS'⟩ => ha' ▸ hnext w' hS') this
    · rw [if_neg (by rw [hw]; simp)]
      rw [← hv]
      exact hnext w hS

/-- one operation behind the other, each over every world that meets S -/
def SeqW (P : Program) (ops : Array Oper) (S : World → Prop) (d : List Deferred) (R : Array Value → Prop) : List Oper → Array Value → Prop
  | [], t => R t
  | o :: rest, t => ∃ t' : Array Value, (∀ w, S w → wpList P ops (fun e a' w' => e = .normal ∧ a' = { tmps := t', defers := d } ∧ S w') [o] { tmps := t, defers := d } w) ∧ SeqW P ops S d R rest t'
def putVal (dst : Option Tmp) (t : Array Value) : Value := match dst with | none => undef | some d => t.getD d undef
theorem put_putVal {t F : Array Value} {d : List Deferred} {dst : Option Tmp} {u : Value} (h : ({ tmps := t, defers := d } : Act).put dst u = { tmps := F, defers := d }) :
    ({ tmps := F, defers := d } : Act) = ({ tmps := t, defers := d } : Act).put dst (putVal dst F) := by
  cases dst with
  | none => exact h.symm
  | some x =>
    simp only [Act.put, Act.mk.injEq, and_true] at h ⊢
    subst h
    by_cases hd : x < t.size
    · simp [putVal, Array.getD_eq_getD_getElem?, hd]
    · have hd' : t.size ≤ x := Nat.le_of_not_lt hd
      rw [Array.setIfInBounds_eq_of_size_le hd', Array.setIfInBounds_eq_of_size_le hd']
theorem putVal_undef {t F : Array Value} {d : List Deferred} {dst : Option Tmp} (h : ({ tmps := t, defers := d } : Act).put dst undef = { tmps := F, defers := d }) : putVal dst F = undef := by
  cases dst with
  | none => rfl
  | some x =>
    simp only [Act.put, Act.mk.injEq, and_true] at h
    subst h
    simp only [putVal, Array.getD_eq_getD_getElem?, Array.getElem?_setIfInBounds]
    by_cases hd : x < t.size
    · simp [hd]
    · simp [hd]
theorem upon_some {o : Oper} {t F : Array Value} {d : List Deferred} {r : Result Next} (h : o.upon P { tmps := t, defers := d } (fun a' w' => a' = { tmps := F, defers := d } ∧ S w') NoOut r) :
    ({ tmps := F, defers := d } : Act) = ({ tmps := t, defers := d } : Act).put o.dst (putVal o.dst F) := by
  cases r with
  | ok n w' =>
    cases n <;> simp only [Oper.upon] at h <;>
      first
        | exact put_putVal h.1
        | (obtain ⟨e, w'', fr, he, _⟩ := h []
           cases e <;> first | exact put_putVal he.1 | exact he.elim | exact (noOut_lets he).elim)
        | (obtain ⟨v, w'', hv, _⟩ := h (Frame.enter P 0 #[] .normal) []
           exact put_putVal hv.1)
        | skip
    rename_i x
    exfalso
    have := congrArg (fun a : Act => a.defers.length) h.1
    cases hd : o.dst <;> simp [hd, Act.put] at this
  | halt x w' => cases x <;> simp only [Oper.upon] at h <;> exact h.elim
theorem wpList_one {o : Oper} {t F : Array Value} {d : List Deferred} {w : World} (h : wpList P ops (fun e a' w' => e = .normal ∧ a' = { tmps := F, defers := d } ∧ S w') [o] { tmps := t, defers := d } w) :
    (Region.wanted o (yielded ops t) = true ∧ o.wp P { tmps := t, defers := d } w (fun a' w' => a' = { tmps := F, defers := d } ∧ S w') NoOut) ∨
    (Region.wanted o (yielded ops t) = false ∧ ({ tmps := t, defers := d } : Act).put o.dst undef = { tmps := F, defers := d }) := by
  unfold wpList at h
  split at h
  · rename_i hw
    refine .inl ⟨hw, ?_⟩
    rcases h with h | h
    · unfold Oper.wp at h ⊢
      generalize (execOp ({ tmps := t, defers := d } : Act).eval o).run P w = r at *
      cases r with
      | ok n w' =>
        cases n <;> simp only [Oper.upon, wpList] at h ⊢ <;>
          first
            | exact h.2
            | exact Calls.mono h (fun e w'' he => by cases e <;> first | exact he.2 | exact absurd he.1 (by simp) | (obtain ⟨_, _, h1, _⟩ := he; exact absurd h1 (by simp)))
            | exact Rows.mono h (fun _ _ he => he.2)
      | halt x w' => cases x <;> simp only [Oper.upon] at h ⊢ <;> first | exact h.elim | exact absurd h.1 (by simp)
    · obtain ⟨_, _, _, h1, _⟩ := h
      exact absurd h1 (by simp)
  · rename_i hw
    simp only [wpList] at h
    exact .inr ⟨by simpa using hw, h.2.1⟩
theorem seqL_of_W {d : List Deferred} {R : Array Value → Prop} {w0 : World} (h0 : S w0) : ∀ (l : List Oper) (t : Array Value), SeqW P ops S d R l t → SeqL P ops S (fun a => ∃ t, a = { tmps := t, defers := d } ∧ R t) l { tmps := t, defers := d }
  | [], t, h => ⟨t, rfl, h⟩
  | o :: rest, t, h => by
    obtain ⟨F, hF, hr⟩ := h
    have hr' := seqL_of_W h0 rest F hr
    have h1 := wpList_one (hF w0 h0)
    cases hw : Region.wanted o (yielded ops t) with
    | true =>
      rw [hw] at h1
      rcases h1 with ⟨_, h1⟩ | ⟨h1, _⟩
      · have e := upon_some h1
        refine ⟨putVal o.dst F, .inl ⟨hw, fun w hS => ?_⟩, e ▸ hr'⟩
        rcases wpList_one (hF w hS) with ⟨_, h2⟩ | ⟨h2, _⟩
        · rw [e] at h2; exact h2
        · rw [hw] at h2; cases h2
      · cases h1
    | false =>
      rw [hw] at h1
      rcases h1 with ⟨h1, _⟩ | ⟨_, h1⟩
      · cases h1
      · exact ⟨undef, .inr ⟨hw, rfl⟩, h1 ▸ hr'⟩

theorem seqL_split : ∀ (l l' : List Oper) (R : Act → Prop) (a : Act), SeqL P ops S (fun x => SeqL P ops S R l' x) l a → SeqL P ops S R (l ++ l') a
  | [], l', R, a, h => h
  | o :: l, l', R, a, h => by
    obtain ⟨v, h1, h2⟩ := h
    exact ⟨v, h1, seqL_split l l' R _ h2⟩

/-- the first operations, in the text's order -/
theorem seq_split (ok : Ok ops) {a0 : Act} {R : Act → Prop} : ∀ (l : List Oper) (i : Nat) (val0 : Nat → Value) (a : Act), (∀ j o, l[j]? = some o → ops[i + j]? = some o) → Fr ops val0 a0 (fun j => decide (j < i)) a → SeqL P ops S R l a →
    ∃ val : Nat → Value, (∀ j, j < i → val j = val0 j) ∧ (∀ k o, i ≤ k → k < i + l.length → ops[k]? = some o → ∃ x, Fr ops val a0 (fun j => decide (j < k)) x ∧ StepV P ops S x o (val k)) ∧
      ∃ x, Fr ops val a0 (fun j => decide (j < i + l.length)) x ∧ R x
  | [], i, val0, a, hl, hf, h => ⟨val0, fun _ _ => rfl, fun k o hk ho => absurd ho (by simp; omega), a, hf, h⟩
  | o :: rest, i, val0, a, hl, hf, h => by
    obtain ⟨v, hs, hrest⟩ := h
    have hi : ops[i]? = some o := hl 0 o (by simp)
    let val1 : Nat → Value := fun j => if j = i then v else val0 j
    have hf1 : Fr ops val1 a0 (fun j => decide (j < i)) a := fr_congr hf (fun _ _ => rfl) (fun j hj => by
      have : j < i := by simpa using hj
      show (if j = i then v else val0 j) = _
      rw [if_neg (by omega)])
    have hv1 : val1 i = v := if_pos rfl
    have hf2 : Fr ops val1 a0 (fun j => decide (j < i + 1)) (a.put o.dst v) := by
      rw [← hv1]
      exact fr_put ok hi hf1 fun j _ => by
        rw [Bool.eq_iff_iff]; simp; omega
    obtain ⟨val, hv, hsteps, hend⟩ := seq_split ok rest (i + 1) val1 (a.put o.dst v) (fun j o' hj => by
      have := hl (j + 1) o' (by simpa using hj)
      rw [show i + 1 + j = i + (j + 1) by omega]; exact this) hf2 hrest
    refine ⟨val, fun j hj => ?_, fun k ok' hk hkl hko => ?_, ?_⟩
    · rw [hv j (by omega)]
      show (if j = i then v else val0 j) = _
      rw [if_neg (by omega)]
    · by_cases hki : k = i
      · subst hki
        rw [hi] at hko
        cases hko
        refine ⟨a, fr_congr hf1 (fun _ _ => rfl) (fun j hj => hv j (Nat.lt_succ_of_lt (by simpa using hj))), ?_⟩
        rw [hv k (by omega), hv1]
        exact hs
      · exact hsteps k ok' (by omega) (by simp only [List.length_cons] at hkl; omega) hko
    · rw [show i + (o :: rest).length = i + 1 + rest.length by simp only [List.length_cons]; omega]
      exact hend

theorem rep_false (n i : Nat) : (Array.replicate n false).getD i false = false := by
  rw [Array.getD_eq_getD_getElem?, Array.getElem?_replicate]
  split <;> rfl
/-- THE LAW: a drawing region whose first k operations have one value each, and whose other ones wait for all ahead, comes to what the text's order comes to. -/
theorem region_det {id : Nat} {l : List Oper} {t : Array Value} {d : List Deferred} {w : World} (S : World → Prop) (k : Nat) (hm : P.follows .mixedOrders = true) (hok : okOps l.toArray = true) (ht : tailOk l.toArray k = true) (hk : k ≤ l.length) (hS : S w.drew)
    (h : SeqW P l.toArray S d (fun t' => ∀ w', S w' → wpList P l.toArray Q (l.drop k) { tmps := t', defers := d } w') (l.take k) t) : (Code.region id l.toArray true).wp P Q { tmps := t, defers := d } w := by
  have ok := okOps_spec hok
  have hlen : l.toArray.size = l.length := by simp
  refine wp_region_any hm ?_
  obtain ⟨val, _, hsteps, x, hfx, t', rfl, hR⟩ := seq_split ok (l.take k) 0 (fun _ => undef) { tmps := t, defers := d } (fun j o hj => by
    rw [List.getElem?_take] at hj
    split at hj
    · simpa using hj
    · cases hj) (fr_start _ _ _ fun i _ => by simp) (seqL_of_W hS _ _ h)
  have hlk : 0 + (l.take k).length = k := by rw [List.length_take]; omega
  rw [hlk] at hsteps hfx
  refine any_det ok (k := k) (by omega) ht (val := val) (fun i o hi ho => hsteps i o (Nat.zero_le _) hi ho) (fun y hy w' hS' => ?_) _ _ _ _ (by simp) ?_ ?_ ?_ ?_ hS
  · rw [fr_eq hy hfx fun _ _ => rfl]
    exact hR w' hS'
  · have : ∀ (L : Nat → Bool) n, cnt L n ≤ n := fun L n => by
      induction n with
      | zero => exact Nat.le_refl _
      | succ n ih => simp only [cnt]; split <;> omega
    exact this _ _
  · intro i o hi hl
    rw [rep_false] at hl
    cases hl
  · intro i hi hl
    rw [rep_false] at hl
    cases hl
  · exact fr_start _ _ _ fun i hi => rep_false _ i

/-- what an operation's walk ends at: hidden, so that the walk leaves it as it is -/
def AtEnd (S : World → Prop) (d : List Deferred) (t' : Array Value) : Exit → Act → World → Prop := fun e a' w' => e = .normal ∧ a' = { tmps := t', defers := d } ∧ S w'
theorem AtEnd.mk {d : List Deferred} {t' : Array Value} {w : World} (h : S w) : AtEnd S d t' .normal { tmps := t', defers := d } w := ⟨rfl, rfl, h⟩
theorem seqW_cons {d : List Deferred} {R : Array Value → Prop} {o : Oper} {rest : List Oper} {t t' : Array Value} (h : ∀ w, S w → wpList P ops (AtEnd S d t') [o] { tmps := t, defers := d } w)
    (hr : SeqW P ops S d R rest t') : SeqW P ops S d R (o :: rest) t := ⟨t', h, hr⟩
theorem seqW_nil {d : List Deferred} {R : Array Value → Prop} {t : Array Value} (h : R t) : SeqW P ops S d R [] t := h
/-- all operations have one value each -/
theorem region_all {id : Nat} {l : List Oper} {t : Array Value} {d : List Deferred} {w : World} (S : World → Prop) (hm : P.follows .mixedOrders = true) (hok : okOps l.toArray = true) (hS : S w.drew)
    (h : SeqW P l.toArray S d (fun t' => ∀ w', S w' → Q .normal { tmps := t', defers := d } w') l t) : (Code.region id l.toArray true).wp P Q { tmps := t, defers := d } w := by
  have ht : tailOk l.toArray l.length = true := by
    unfold tailOk
    rw [List.all_eq_true]
    intro j hj
    have : j < l.length := by simpa using hj
    simp [this]
  refine region_det S l.length hm hok ht (Nat.le_refl _) hS ?_
  rw [List.take_of_length_le (Nat.le_refl _), List.drop_of_length_le (Nat.le_refl _)]
  exact h
end Go.Det
