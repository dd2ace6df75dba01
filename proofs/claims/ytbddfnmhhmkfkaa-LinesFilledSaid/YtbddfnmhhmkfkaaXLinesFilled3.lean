/- Texts of this seat, one behind the other. -/
import Derived.Maps.AppendAt
import Derived.Lib.Hide
import Derived.Test.YtbddfnmhhmkfkaaXLinesFilled1
import Derived.Test.YtbddfnmhhmkfkaaXLinesFilled2
namespace Go.Mix
open Go Go.Det
set_option linter.unusedVariables false
variable {P : Program} {ops : Array Oper} {Q : Exit → Act → World → Prop}
def StepG (P : Program) (ops : Array Oper) (S S' : World → Prop) (a : Act) (o : Oper) (v : Value) : Prop :=
 (Region.wanted o (yielded ops a.tmps) = true ∧ ∀ w, S w → o.wp P a w (fun a' w' => a' = a.put o.dst v ∧ S' w') NoOut) ∨
 (Region.wanted o (yielded ops a.tmps) = false ∧ v = undef ∧ ∀ w, S w → S' w)
theorem stepG_same (ok : Ok ops) {S S' : World → Prop} {val : Nat → Value} {a x y : Act} {L L' : Nat → Bool} {i : Nat} {o : Oper} {v : Value} (hi : ops[i]? = some o) (hx : Fr ops val a L x) (hy : Fr ops val a L' y)
  (h : ∀ j oj t, ops[j]? = some oj → oj.dst = some t → t ∈ o.looksAt ops → L j = L' j) (hs : StepG P ops S S' x o v) : StepG P ops S S' y o v := by
 have hev : execOp y.eval o = execOp x.eval o := execOp_congr o (ok.plain i o hi) fun z hz => by
  cases z with
  | tmp t =>
   have := fr_same hx hy t fun j oj hj hd => h j oj t hj hd (List.mem_append_left _ (List.mem_filterMap.2 ⟨.tmp t, by simpa using hz, rfl⟩))
   simp [Act.eval, Array.getD_eq_getD_getElem?, this]
  | _ => rfl
 have hw : Region.wanted o (yielded ops y.tmps) = Region.wanted o (yielded ops x.tmps) := by
  unfold Region.wanted
  cases hg : o.guard with
  | none => rfl
  | some gw =>
   obtain ⟨g, want⟩ := gw
   have : yielded ops y.tmps g = yielded ops x.tmps g := by
    unfold yielded
    cases ht : (ops[g]?).bind (·.dst) with
    | none => rfl
    | some t =>
     have := fr_same hx hy t fun j oj hj hd => h j oj t hj hd (by simp [Oper.looksAt, hg, ht])
     simp [this]
   simp only [this]
 have hsz : y.tmps.size = x.tmps.size := by rw [hx.2.1, hy.2.1]
 rcases hs with ⟨h1, h2⟩ | h1
 ·refine .inl ⟨by rw [hw]; exact h1, fun w hS => ?_⟩
  have := h2 w hS
  unfold Oper.wp at this ⊢
  rw [hev]
  exact upon_same hsz this
 ·exact .inr (by rw [hw]; exact h1)
def tailOk (ops : Array Oper) (k : Nat) (es : List Nat) : Bool := (List.range ops.size).all fun j => decide (j < k) || es.contains j || (List.range j).all fun i => es.contains i || waits ops ops.size j i
theorem tail_waits {k : Nat} {es : List Nat} (ht : tailOk ops k es = true) {j i : Nat} (hj : j < ops.size) (hk : k ≤ j) (he : es.contains j = false) (hi : i < j) (hei : es.contains i = false) : waits ops ops.size j i = true := by
 have := List.all_eq_true.1 ht j (List.mem_range.2 hj)
 simp only [Bool.or_eq_true, decide_eq_true_eq, he, Bool.false_eq_true, or_false] at this
 rcases this with h | h
 ·omega
 ·have := List.all_eq_true.1 h i (List.mem_range.2 hi)
  simpa only [hei, Bool.false_or] using this
def rest (ops : Array Oper) (es : List Nat) : Nat → Nat → List Oper
 | 0, _ => []
 | n + 1, m => match ops[m]? with
  | none => []
  | some o => if es.contains m then rest ops es n (m + 1) else o :: rest ops es n (m + 1)
def esOk (ops : Array Oper) (es : List Nat) : Bool := es.all fun j => match ops[j]? with | some o => o.after.all fun e => !Region.binds .any e || es.contains e.on | none => false
theorem esOk_spec {es : List Nat} (h : esOk ops es = true) {j : Nat} {o : Oper} (hj : ops[j]? = some o) (hc : es.contains j = true) : ∀ e ∈ o.after, Region.binds .any e = true → es.contains e.on = true := fun e he hb => by
 have h1 := List.all_eq_true.1 h j (by simpa using hc)
 simp only [hj] at h1
 have h2 := (Array.all_eq_true_iff_forall_mem.1 h1) e he
 simpa [hb] using h2
theorem any_tail (ok : Ok ops) {k : Nat} {es : List Nat} (hes : esOk ops es = true) (ht : tailOk ops k es = true) : ∀ (n m fuel : Nat) (listed : Array Bool) (a : Act) (w : World), listed.size = ops.size → (∀ i, i < ops.size → listed.getD i false = (decide (i < m) || es.contains i)) →
  k ≤ m → m + n = ops.size → (rest ops es n m).length ≤ fuel → wpList P ops Q (rest ops es n m) a w → wpAny P .any ops Q fuel listed a w := by
 intro n
 induction n with
 | zero =>
  intro m fuel listed a w hsz hL hk hm hf h
  simp only [rest, wpList] at h
  refine wpAny_done ?_ h fuel
  rw [List.eq_nil_iff_forall_not_mem]
  intro i hi
  have hi' := ready_lt hi
  have := ((ready_iff hsz (Array.getElem?_eq_getElem hi')).1 hi).1
  rw [hL i hi'] at this
  simp at this
  omega
 | succ n ih =>
  intro m fuel listed a w hsz hL hk hm hf h
  have hml : m < ops.size := by omega
  have ho : ops[m]? = some ops[m] := Array.getElem?_eq_getElem hml
  cases hem : es.contains m with
  | true =>
   simp only [rest, ho, hem, if_true] at h hf
   refine ih (m + 1) fuel listed a w hsz (fun i hi => ?_) (by omega) (by omega) hf h
   rw [hL i hi, Bool.eq_iff_iff]
   by_cases him : i = m
   ·subst him; simp only [hem, Bool.or_true]
   ·simp only [Bool.or_eq_true, decide_eq_true_eq]
    constructor <;> (rintro (h | h) <;> first | exact .inr h | exact .inl (by omega))
  | false =>
   simp only [rest, ho, hem, Bool.false_eq_true, if_false] at h hf
   cases fuel with
   | zero => simp at hf
   | succ fuel =>
   have hunl : listed.getD m false = false := by rw [hL m hml, hem]; simp
   have hcl : ∀ (j : Nat) (o : Oper), ops[j]? = some o → listed.getD j false = true → ∀ e ∈ o.after, Region.binds .any e = true → listed.getD e.on false = true := fun j o hj hl e he hb => by
    have hb' := ok.back j o hj e he hb
    have hj' := lt_of_some hj
    rw [hL j hj'] at hl
    rw [hL e.on (by omega)]
    rcases Bool.or_eq_true .. ▸ hl with h1 | h1
    ·have : e.on < m := by have := of_decide_eq_true h1; omega
     simp [this]
    ·rw [esOk_spec hes hj h1 e he hb]; simp
   have only : ∀ i, i ∈ Region.ready .any ops listed → i = m := fun i hi => by
    have hi' := ready_lt hi
    obtain ⟨h1, h2⟩ := (ready_iff hsz (Array.getElem?_eq_getElem hi')).1 hi
    rw [hL i hi'] at h1
    simp only [Bool.or_eq_false_iff, decide_eq_false_iff_not] at h1
    rcases Nat.lt_or_ge m i with h3 | h3
    ·exfalso
     have hw := tail_waits ht hi' (by omega) h1.2 h3 hem
     have := waits_listed hcl ops.size i m (fun o ho e he hb => by
      rw [Array.getElem?_eq_getElem hi'] at ho
      cases ho
      exact h2 e he hb) hw
     rw [hunl] at this
     cases this
    ·omega
   refine ⟨fun hr => ?_, fun i hi => ?_⟩
   ·have := least_ready ok hsz hr m hml
    rw [hunl] at this
    cases this
   ·obtain rfl := only i hi
    have hnext : ∀ a w, wpList P ops Q (rest ops es n (i + 1)) a w → wpAny P .any ops Q fuel (listed.setIfInBounds i true) a w := fun a w h' =>
     ih (i + 1) fuel _ a w (by simpa using hsz) (fun j hj => by
      rw [set_getD (by omega), hL j hj, Bool.eq_iff_iff]
      simp only [Bool.or_eq_true, decide_eq_true_eq, beq_iff_eq]
      constructor
      ·rintro ((h1 | h1) | h1)
       ·exact .inl (by omega)
       ·exact .inr h1
       ·exact .inl (by omega)
      ·rintro (h1 | h1)
       ·rcases Nat.lt_or_ge j i with h2 | h2
        ·exact .inl (.inl h2)
        ·exact .inr (by omega)
       ·exact .inl (.inr h1)) (by omega) (by omega) (by simp only [List.length_cons] at hf; omega) h'
    unfold wpOp
    rw [ho]
    simp only
    unfold wpList at h
    split
    ·rename_i hw
     rw [if_pos hw] at h
     exact h.imp (Oper.wp_mono hnext) id
    ·rename_i hw
     rw [if_neg hw] at h
     exact hnext _ _ h
theorem rest_len {es : List Nat} {L : Nat → Bool} : ∀ (n m : Nat), (∀ i, m ≤ i → i < m + n → es.contains i = false → L i = false) → (rest ops es n m).length + cnt L m ≤ cnt L (m + n)
 | 0, m, _ => by simp [rest]
 | n + 1, m, h => by
  have ih := rest_len n (m + 1) fun i hi hin he => h i (by omega) (by omega) he
  rw [show m + 1 + n = m + (n + 1) by omega] at ih
  have hc : cnt L m ≤ cnt L (m + 1) := by simp only [cnt]; omega
  have hm : ∀ n, cnt L m ≤ cnt L (m + n) := fun n => by
   induction n with
   | zero => exact Nat.le_refl _
   | succ n ihn => exact Nat.le_trans ihn (by rw [show m + (n + 1) = (m + n) + 1 by omega]; simp only [cnt]; omega)
  simp only [rest]
  split
  ·simp only [List.length_nil]; have := hm (n + 1); omega
  ·split
   ·omega
   ·rename_i he
    have hl := h m (Nat.le_refl _) (by omega) (by simpa using he)
    have hc1 : cnt L (m + 1) = cnt L m + 1 := by simp only [cnt, hl, Bool.false_eq_true, if_false]
    simp only [List.length_cons]
    omega
theorem any_mix (ok : Ok ops) {S : Bool → World → Prop} {μ k : Nat} {es : List Nat} (hes : esOk ops es = true) (hμ : es.contains μ = false) (hkn : k ≤ ops.size) (ht : tailOk ops k es = true) {val : Nat → Value} {a0 : Act}
  (hsteps : ∀ i o, i < k → es.contains i = false → ops[i]? = some o → ∃ x, Fr ops val a0 (fun j => decide (j < i) || es.contains j) x ∧ (if i = μ then StepG P ops (S false) (S true) x o (val i) else ∀ b, StepG P ops (S b) (S b) x o (val i)))
  (hend : ∀ x, Fr ops val a0 (fun j => decide (j < k) || es.contains j) x → ∀ w, S (decide (μ < k)) w → wpList P ops Q (rest ops es (ops.size - k) k) x w) : ∀ (fuel : Nat) (listed : Array Bool) (a : Act) (w : World), listed.size = ops.size →
  cnt (fun i => listed.getD i false) ops.size ≤ fuel → (∀ i o, ops[i]? = some o → listed.getD i false = true → ∀ e ∈ o.after, Region.binds .any e = true → listed.getD e.on false = true) →
  (∀ i, i < ops.size → listed.getD i false = true → i < k ∨ es.contains i = true) → (∀ i, i < ops.size → es.contains i = true → listed.getD i false = true) →
  Fr ops val a0 (fun i => listed.getD i false) a → S (listed.getD μ false) w → wpAny P .any ops Q fuel listed a w := by
 have fin : ∀ (fuel : Nat) (listed : Array Bool) (a : Act) (w : World), listed.size = ops.size →
  cnt (fun i => listed.getD i false) ops.size ≤ fuel →
  (∀ i, i < ops.size → listed.getD i false = true → i < k ∨ es.contains i = true) → (∀ i, i < ops.size → es.contains i = true → listed.getD i false = true) →
  Fr ops val a0 (fun i => listed.getD i false) a → S (listed.getD μ false) w → (∀ i, i < k → listed.getD i false = true) → wpAny P .any ops Q fuel listed a w := by
  intro fuel listed a w hsz hc hlk hel hf hS hdone
  have hL : ∀ i, i < ops.size → listed.getD i false = (decide (i < k) || es.contains i) := fun i hi => by
   by_cases hik : i < k
   ·rw [hdone i hik]; simp [hik]
   ·cases he : es.contains i with
    | true => rw [hel i hi he]; simp
    | false =>
     have : listed.getD i false ≠ true := fun h => by
      rcases hlk i hi h with h | h
      ·exact hik h
      ·rw [he] at h; cases h
     simp only [Bool.not_eq_true] at this
     rw [this]; simp [hik]
  have hb : listed.getD μ false = decide (μ < k) := by
   rcases Nat.lt_or_ge μ ops.size with h | h
   ·rw [hL μ h, hμ]; simp
   ·rw [Array.getD_eq_getD_getElem?, Array.getElem?_eq_none (by omega)]
    simp; omega
  rw [hb] at hS
  refine any_tail ok hes ht (ops.size - k) k fuel listed a w hsz hL (Nat.le_refl _) (by omega) ?_ (hend a (fr_congr hf (fun j hj => (hL j hj).symm) (fun _ _ => rfl)) w hS)
  have := rest_len (ops := ops) (es := es) (L := fun i => listed.getD i false) (ops.size - k) k fun i hi hin he => by
   show listed.getD i false = false
   rw [hL i (by omega), he]; simp; omega
  rw [show k + (ops.size - k) = ops.size by omega] at this
  omega
 intro fuel
 induction fuel with
 | zero =>
  intro listed a w hsz hc hcl hlk hel hf hS
  have hall := cnt_zero _ _ (Nat.le_zero.1 hc)
  exact fin 0 listed a w hsz hc hlk hel hf hS fun i hi => hall i (by omega)
 | succ fuel ih =>
  intro listed a w hsz hc hcl hlk hel hf hS
  by_cases hdone : ∀ i, i < k → listed.getD i false = true
  ·exact fin _ listed a w hsz hc hlk hel hf hS hdone
  refine ⟨fun hr => absurd (fun i hi => least_ready ok hsz hr i (by omega)) hdone, fun i hi => ?_⟩
  have hin : i < ops.size := ready_lt hi
  have hil : i < listed.size := by omega
  obtain ⟨o, ho⟩ : ∃ o, ops[i]? = some o := ⟨_, Array.getElem?_eq_getElem hin⟩
  obtain ⟨hlf, hdeps⟩ := (ready_iff hsz ho).1 hi
  have hie : es.contains i = false := by
   cases he : es.contains i with
   | false => rfl
   | true => rw [hel i hin he] at hlf; cases hlf
  have hik : i < k := by
   rcases Nat.lt_or_ge i k with h | h
   ·exact h
   ·exfalso
    refine hdone fun j hj => ?_
    cases hej : es.contains j with
    | true => exact hel j (by omega) hej
    | false =>
     have hw := tail_waits ht hin h hie (show j < i by omega) hej
     exact waits_listed hcl ops.size i j (fun o' ho' e he hb => by
      rw [ho] at ho'
      cases ho'
      exact hdeps e he hb) hw
  have hset : ∀ j, (listed.setIfInBounds i true).getD j false = (listed.getD j false || j == i) := fun j => set_getD hil j
  obtain ⟨x, hfx, hsx⟩ := hsteps i o hik hie ho
  have look : ∀ j oj t, ops[j]? = some oj → oj.dst = some t → t ∈ o.looksAt ops → (decide (j < i) || es.contains j) = listed.getD j false := fun j oj t hj hd ht => by
   rcases ok.reads i o j oj t ho hj hd ht with ⟨e, he, hb, rfl⟩ | ⟨hne, e, he, hb, hei⟩
   ·rw [hdeps e he hb]
    have := ok.back i o ho e he hb
    simp [this]
   ·have hlt : i < j := hei ▸ ok.back j oj hj e he hb
    have hlj : listed.getD j false = false := by
     cases hlj : listed.getD j false with
     | false => rfl
     | true =>
      have := hcl j oj hj hlj e he hb
      rw [hei, hlf] at this
      cases this
    rw [hlj]
    have : es.contains j = false := by
     cases hej : es.contains j with
     | false => rfl
     | true => rw [hel j (lt_of_some hj) hej] at hlj; cases hlj
    rw [this]
    simp; omega
  have hnext : ∀ w', S ((listed.setIfInBounds i true).getD μ false) w' → wpAny P .any ops Q fuel (listed.setIfInBounds i true) (a.put o.dst (val i)) w' := fun w' hS' => by
   refine ih _ _ _ (by simpa using hsz) ?_ ?_ ?_ ?_ ?_ hS'
   ·have := (cnt_set (fun j => listed.getD j false) (fun j => (listed.setIfInBounds i true).getD j false) i hlf hset ops.size).1 hin
    omega
   ·intro j oj hj hlj e he hb
    rw [hset] at hlj ⊢
    rcases Bool.or_eq_true .. ▸ hlj with h | h
    ·rw [hcl j oj hj h e he hb]; rfl
    ·have : j = i := by simpa using h
     subst this
     rw [ho] at hj
     cases hj
     rw [hdeps e he hb]; rfl
   ·intro j hj hlj
    rw [hset] at hlj
    rcases Bool.or_eq_true .. ▸ hlj with h | h
    ·exact hlk j hj h
    ·have : j = i := by simpa using h
     exact .inl (by omega)
   ·intro j hj he
    rw [hset, hel j hj he]; rfl
   ·exact fr_put ok ho hf fun j _ => hset j
  have go : ∀ S1 S2 : World → Prop, S1 w → (∀ w', S2 w' → S ((listed.setIfInBounds i true).getD μ false) w') → StepG P ops S1 S2 a o (val i) → wpOp P ops Q i (wpAny P .any ops Q fuel (listed.setIfInBounds i true)) a w := by
   intro S1 S2 h1 h2 hst
   unfold wpOp
   rw [ho]
   simp only
   rcases hst with ⟨hw, hrun⟩ | ⟨hw, hv, hs⟩
   ·rw [if_pos hw]
    refine .inl ?_
    have := hrun w h1
    unfold Oper.wp at this ⊢
    exact upon_imp (fun a' w' ⟨ha', hS'⟩ => ha' ▸ hnext w' (h2 _ hS')) this
   ·rw [if_neg (by rw [hw]; simp)]
    rw [← hv]
    exact hnext w (h2 _ (hs _ h1))
  by_cases hiμ : i = μ
  ·rw [if_pos hiμ] at hsx
   refine go (S false) (S true) ?_ (fun w' h => ?_) (stepG_same ok ho hfx hf look hsx)
   ·rw [← hiμ, hlf] at hS; exact hS
   ·rw [← hiμ, hset]; simpa using h
  ·rw [if_neg hiμ] at hsx
   refine go _ _ hS (fun w' h => ?_) (stepG_same ok ho hfx hf look (hsx _))
   rw [hset, show (μ == i) = false by simpa using Ne.symm hiμ, Bool.or_false]
   exact h
theorem wpList_one2 {S' : World → Prop} {o : Oper} {t F : Array Value} {d : List Deferred} {w : World} (h : wpList P ops (AtEnd S' d F) [o] { tmps := t, defers := d } w) :
  (Region.wanted o (yielded ops t) = true ∧ o.wp P { tmps := t, defers := d } w (fun a' w' => a' = { tmps := F, defers := d } ∧ S' w') NoOut) ∨
  (Region.wanted o (yielded ops t) = false ∧ ({ tmps := t, defers := d } : Act).put o.dst undef = { tmps := F, defers := d } ∧ S' w) := by
 rcases wpList_one (S := S') h with h1 | h1
 ·exact .inl h1
 ·refine .inr ⟨h1.1, h1.2, ?_⟩
  unfold wpList at h
  rw [if_neg (by rw [h1.1]; simp)] at h
  simp only [wpList, AtEnd] at h
  exact h.2.2
def SeqM (P : Program) (ops : Array Oper) (S : Bool → World → Prop) (μ : Nat) (es : List Nat) (d : List Deferred) (R : Array Value → Prop) : Nat → List Oper → Array Value → Prop
 | _, [], t => R t
 | i, o :: l, t => if es.contains i then SeqM P ops S μ es d R (i + 1) l t else
   ∃ t' : Array Value, (if i = μ then ∀ w, S false w → wpList P ops (AtEnd (S true) d t') [o] { tmps := t, defers := d } w
    else ∀ b w, S b w → wpList P ops (AtEnd (S b) d t') [o] { tmps := t, defers := d } w) ∧ SeqM P ops S μ es d R (i + 1) l t'
theorem seqM_nil {S : Bool → World → Prop} {μ i : Nat} {es : List Nat} {d : List Deferred} {R : Array Value → Prop} {t : Array Value} (h : R t) : SeqM P ops S μ es d R i [] t := h
theorem seqM_skip {S : Bool → World → Prop} {μ i : Nat} {es : List Nat} {d : List Deferred} {R : Array Value → Prop} {o : Oper} {l : List Oper} {t : Array Value} (he : es.contains i = true)
  (h : SeqM P ops S μ es d R (i + 1) l t) : SeqM P ops S μ es d R i (o :: l) t := by
 simp only [SeqM, he, if_true]; exact h
theorem seqM_cons {S : Bool → World → Prop} {μ i : Nat} {es : List Nat} {d : List Deferred} {R : Array Value → Prop} {o : Oper} {l : List Oper} {t t' : Array Value} (he : es.contains i = false) (hμ : (i == μ) = false)
  (h : ∀ b w, S b w → wpList P ops (AtEnd (S b) d t') [o] { tmps := t, defers := d } w) (hr : SeqM P ops S μ es d R (i + 1) l t') : SeqM P ops S μ es d R i (o :: l) t := by
 simp only [SeqM, he, Bool.false_eq_true, if_false]
 exact ⟨t', by rw [if_neg (by simpa using hμ)]; exact h, hr⟩
theorem seqM_main {S : Bool → World → Prop} {μ : Nat} {es : List Nat} {d : List Deferred} {R : Array Value → Prop} {o : Oper} {l : List Oper} {t t' : Array Value} (he : es.contains μ = false)
  (h : ∀ w, S false w → wpList P ops (AtEnd (S true) d t') [o] { tmps := t, defers := d } w) (hr : SeqM P ops S μ es d R (μ + 1) l t') : SeqM P ops S μ es d R μ (o :: l) t := by
 simp only [SeqM, he, Bool.false_eq_true, if_false]
 exact ⟨t', by rw [if_pos trivial]; exact h, hr⟩
theorem stepG_of {S S' : World → Prop} {o : Oper} {t F : Array Value} {d : List Deferred} {v : Value} (hv : Region.wanted o (yielded ops t) = false → v = undef)
  (he : ({ tmps := F, defers := d } : Act) = ({ tmps := t, defers := d } : Act).put o.dst v) (h : ∀ w, S w → wpList P ops (AtEnd S' d F) [o] { tmps := t, defers := d } w) : StepG P ops S S' { tmps := t, defers := d } o v := by
 cases hw : Region.wanted o (yielded ops t) with
 | true =>
  refine .inl ⟨hw, fun w hS => ?_⟩
  rcases wpList_one2 (h w hS) with ⟨_, h2⟩ | ⟨h2, _⟩
  ·rw [he] at h2; exact h2
  ·rw [hw] at h2; cases h2
 | false =>
  refine .inr ⟨hw, hv hw, fun w hS => ?_⟩
  rcases wpList_one2 (h w hS) with ⟨h2, _⟩ | ⟨_, _, h2⟩
  ·rw [hw] at h2; cases h2
  ·exact h2
theorem put_of {S' : World → Prop} {o : Oper} {t F : Array Value} {d : List Deferred} {w : World} (h : wpList P ops (AtEnd S' d F) [o] { tmps := t, defers := d } w) :
  ∃ v, (Region.wanted o (yielded ops t) = false → v = undef) ∧ ({ tmps := F, defers := d } : Act) = ({ tmps := t, defers := d } : Act).put o.dst v := by
 rcases wpList_one2 h with ⟨hw, h2⟩ | ⟨hw, h2, _⟩
 ·exact ⟨_, fun h => (by rw [hw] at h; cases h), upon_some (S := S') h2⟩
 ·exact ⟨undef, fun _ => rfl, h2.symm⟩
theorem seqM_vals (ok : Ok ops) {S : Bool → World → Prop} {μ : Nat} {es : List Nat} {d : List Deferred} {R : Array Value → Prop} {a0 : Act} {w0 : World} (h0 : S false w0) : ∀ (l : List Oper) (i : Nat) (val0 : Nat → Value) (t : Array Value),
  (∀ j o, l[j]? = some o → ops[i + j]? = some o) → Fr ops val0 a0 (fun j => decide (j < i) || es.contains j) { tmps := t, defers := d } → SeqM P ops S μ es d R i l t →
  ∃ val : Nat → Value, (∀ j, (j < i ∨ es.contains j = true) → val j = val0 j) ∧ (∀ k o, i ≤ k → k < i + l.length → es.contains k = false → ops[k]? = some o → ∃ x, Fr ops val a0 (fun j => decide (j < k) || es.contains j) x ∧
   (if k = μ then StepG P ops (S false) (S true) x o (val k) else ∀ b, StepG P ops (S b) (S b) x o (val k))) ∧
   ∃ t', Fr ops val a0 (fun j => decide (j < i + l.length) || es.contains j) { tmps := t', defers := d } ∧ R t'
 | [], i, val0, t, hl, hf, h => ⟨val0, fun _ _ => rfl, fun k o hk ho => absurd ho (by simp; omega), t, hf, h⟩
 | o :: rest, i, val0, t, hl, hf, h => by
  have hi : ops[i]? = some o := hl 0 o (by simp)
  have hl' : ∀ j o', rest[j]? = some o' → ops[i + 1 + j]? = some o' := fun j o' hj => by
   have := hl (j + 1) o' (by simpa using hj)
   rw [show i + 1 + j = i + (j + 1) by omega]; exact this
  have hlen : i + (o :: rest).length = i + 1 + rest.length := by simp only [List.length_cons]; omega
  rw [hlen]
  cases he : es.contains i with
  | true =>
   simp only [SeqM, he, if_true] at h
   have hf1 : Fr ops val0 a0 (fun j => decide (j < i + 1) || es.contains j) { tmps := t, defers := d } := fr_congr hf (fun j hj => by
    rw [Bool.eq_iff_iff]
    simp only [Bool.or_eq_true, decide_eq_true_eq]
    constructor
    ·rintro (h1 | h1)
     ·rcases Nat.lt_or_ge j i with h2 | h2
      ·exact .inl h2
      ·obtain rfl : j = i := by omega
       exact .inr he
     ·exact .inr h1
    ·rintro (h1 | h1)
     ·exact .inl (by omega)
     ·exact .inr h1) (fun _ _ => rfl)
   obtain ⟨val, hv, hsteps, hend⟩ := seqM_vals ok h0 rest (i + 1) val0 t hl' hf1 h
   refine ⟨val, fun j hj => hv j (hj.imp (by omega) id), fun k ok' hk hkl hke hko => ?_, hend⟩
   by_cases hki : k = i
   ·subst hki; rw [he] at hke; cases hke
   ·exact hsteps k ok' (by omega) hkl hke hko
  | false =>
   simp only [SeqM, he, Bool.false_eq_true, if_false] at h
   obtain ⟨F, hF, hrest⟩ := h
   have hput : ∃ v, (Region.wanted o (yielded ops t) = false → v = undef) ∧ ({ tmps := F, defers := d } : Act) = ({ tmps := t, defers := d } : Act).put o.dst v := by
    by_cases hiμ : i = μ
    ·rw [if_pos hiμ] at hF; exact put_of (hF w0 h0)
    ·rw [if_neg hiμ] at hF; exact put_of (hF false w0 h0)
   obtain ⟨v, hvu, hput⟩ := hput
   have hst : if i = μ then StepG P ops (S false) (S true) { tmps := t, defers := d } o v else ∀ b, StepG P ops (S b) (S b) { tmps := t, defers := d } o v := by
    by_cases hiμ : i = μ
    ·rw [if_pos hiμ] at hF ⊢
     exact stepG_of hvu hput hF
    ·rw [if_neg hiμ] at hF ⊢
     exact fun b => stepG_of hvu hput (hF b)
   let val1 : Nat → Value := fun j => if j = i then v else val0 j
   have hne : ∀ j, (decide (j < i) || es.contains j) = true → j ≠ i := fun j hj hji => by
    subst hji
    rw [he] at hj
    simp at hj
   have hf1 : Fr ops val1 a0 (fun j => decide (j < i) || es.contains j) { tmps := t, defers := d } := fr_congr hf (fun _ _ => rfl) (fun j hj => by
    show (if j = i then v else val0 j) = _
    rw [if_neg (hne j hj)])
   have hv1 : val1 i = v := if_pos rfl
   have hf2 : Fr ops val1 a0 (fun j => decide (j < i + 1) || es.contains j) { tmps := F, defers := d } := by
    rw [hput, ← hv1]
    exact fr_put ok hi hf1 fun j _ => by
     rw [Bool.eq_iff_iff]
     simp only [Bool.or_eq_true, decide_eq_true_eq, beq_iff_eq]
     constructor
     ·rintro (h1 | h1)
      ·rcases Nat.lt_or_ge j i with h2 | h2
       ·exact .inl (.inl h2)
       ·exact .inr (by omega)
      ·exact .inl (.inr h1)
     ·rintro ((h1 | h1) | h1)
      ·exact .inl (by omega)
      ·exact .inr h1
      ·exact .inl (by omega)
   obtain ⟨val, hv, hsteps, hend⟩ := seqM_vals ok h0 rest (i + 1) val1 F hl' hf2 hrest
   refine ⟨val, fun j hj => ?_, fun k ok' hk hkl hke hko => ?_, hend⟩
   ·rw [hv j (hj.imp (by omega) id)]
    show (if j = i then v else val0 j) = _
    rw [if_neg (hne j (by rcases hj with h1 | h1 <;> rw [Bool.or_eq_true] <;> first | exact .inl (decide_eq_true h1) | exact .inr h1))]
   ·by_cases hki : k = i
    ·subst hki
     rw [hi] at hko
     cases hko
     refine ⟨_, fr_congr hf1 (fun _ _ => rfl) (fun j hj => hv j ?_), ?_⟩
     ·rcases Bool.or_eq_true .. ▸ hj with h1 | h1
      ·exact .inl (Nat.lt_succ_of_lt (of_decide_eq_true h1))
      ·exact .inr h1
     ·rw [hv k (by omega), hv1]
      exact hst
    ·exact hsteps k ok' (by omega) hkl hke hko
def SeqE (P : Program) (ops : Array Oper) (d : List Deferred) (R : Array Value → Prop) : List Nat → Array Value → Prop
 | [], t => R t
 | e :: es, t => ∃ o, ops[e]? = some o ∧ ∃ (v : Value) (t' : Array Value), Yields P ops o v { tmps := t, defers := d } ∧ ({ tmps := t, defers := d } : Act).put o.dst v = { tmps := t', defers := d } ∧ SeqE P ops d R es t'
theorem seqE_nil {d : List Deferred} {R : Array Value → Prop} {t : Array Value} (h : R t) : SeqE P ops d R [] t := h
theorem seqE_cons {d : List Deferred} {R : Array Value → Prop} {e : Nat} {es : List Nat} {t t' : Array Value} (o : Oper) (v : Value) (ho : ops[e]? = some o) (hw : Region.wanted o (yielded ops t) = true)
  (hv : ∀ w, (execOp ({ tmps := t, defers := d } : Act).eval o).run P w = .ok (.value v) w) (ht : ({ tmps := t, defers := d } : Act).put o.dst v = { tmps := t', defers := d }) (hr : SeqE P ops d R es t') : SeqE P ops d R (e :: es) t :=
 ⟨o, ho, v, t', .inl ⟨hw, hv⟩, ht, hr⟩
def takeOk (ops : Array Oper) : List Nat → Array Bool → Bool
 | [], _ => true
 | e :: es, listed => (Region.ready .any ops listed).contains e && Region.free .any ops listed e && takeOk ops es (listed.setIfInBounds e true)
theorem any_take {d : List Deferred} {R : Array Value → Prop} {w : World} {a0 : Act} (ok : Ok ops) (hs : Region.noSelect ops = true) (hQ : ∀ c (a : Act) dst v w, Q (.panic c) (a.put dst v) w → Q (.panic c) a w) :
  ∀ (es : List Nat) (listed : Array Bool) (fuel : Nat) (t : Array Value) (val0 : Nat → Value), listed.size = ops.size → takeOk ops es listed = true → Fr ops val0 a0 (fun j => listed.getD j false) { tmps := t, defers := d } → SeqE P ops d R es t →
   (∀ (t' : Array Value) (val : Nat → Value), Fr ops val a0 (fun j => (es.foldl (fun L e => L.setIfInBounds e true) listed).getD j false) { tmps := t', defers := d } → R t' → wpAny P .any ops Q fuel (es.foldl (fun L e => L.setIfInBounds e true) listed) { tmps := t', defers := d } w) →
   wpAny P .any ops Q (fuel + es.length) listed { tmps := t, defers := d } w
 | [], listed, fuel, t, val0, hsz, htk, hf, h, hk => hk t val0 hf h
 | e :: es, listed, fuel, t, val0, hsz, htk, hf, h, hk => by
  obtain ⟨o, ho, v, t', hy, hp, hr⟩ := h
  simp only [takeOk, Bool.and_eq_true] at htk
  have hrd : e ∈ Region.ready .any ops listed := by simpa using htk.1.1
  have hlf := ((ready_iff hsz ho).1 hrd).1
  have hin := lt_of_some ho
  let val1 : Nat → Value := fun j => if j = e then v else val0 j
  have hf1 : Fr ops val1 a0 (fun j => listed.getD j false) { tmps := t, defers := d } := fr_congr hf (fun _ _ => rfl) (fun j hj => by
   show (if j = e then v else val0 j) = _
   rw [if_neg]
   rintro rfl
   rw [hlf] at hj
   cases hj)
  have hv1 : val1 e = v := if_pos rfl
  refine wpAny_take (fuel := fuel + es.length) ho hs htk.1.2 htk.1.1 (fun c a w => hQ c a _ _ w) hy ?_
  rw [hp]
  refine any_take ok hs hQ es (listed.setIfInBounds e true) fuel t' val1 (by simpa using hsz) htk.2 ?_ hr hk
  rw [← hp, ← hv1]
  exact fr_put ok ho hf1 fun j _ => set_getD (by omega) j
theorem fold_getD {n : Nat} : ∀ (es : List Nat) (L : Array Bool), L.size = n → (∀ e ∈ es, e < n) → (es.foldl (fun L e => L.setIfInBounds e true) L).size = n ∧ ∀ j, (es.foldl (fun L e => L.setIfInBounds e true) L).getD j false = (L.getD j false || es.contains j)
 | [], L, h, _ => ⟨h, fun j => by simp⟩
 | e :: es, L, h, hlt => by
  obtain ⟨h1, h2⟩ := fold_getD es (L.setIfInBounds e true) (by simpa using h) (fun x hx => hlt x (List.mem_cons_of_mem _ hx))
  refine ⟨h1, fun j => ?_⟩
  have he : e < L.size := by have := hlt e (by simp); omega
  rw [List.foldl_cons, h2 j, set_getD he]
  rw [List.contains_cons, Bool.or_assoc]
def mixOk (ops : Array Oper) (μ k : Nat) (es : List Nat) : Bool :=
 okOps ops && esOk ops es && !es.contains μ && tailOk ops k es && decide (k ≤ ops.size) && takeOk ops es (Array.replicate ops.size false) && Region.noSelect ops && decide (cnt (fun j => es.contains j) ops.size + es.length ≤ ops.size)
theorem region_mix {id : Nat} {l : List Oper} {t : Array Value} {d : List Deferred} {w : World} (S : Bool → World → Prop) (μ k : Nat) (es : List Nat) (hm : P.follows .mixedOrders = true) (hok : mixOk l.toArray μ k es = true)
  (hQ0 : ∀ c (a : Act) (x : Tmp) v w, Q (.panic c) (a.put (some x) v) w → Q (.panic c) a w) (hS : S false w.drew)
  (h : SeqE P l.toArray d (fun t' => SeqM P l.toArray S μ es d (fun t'' => ∀ w', S (decide (μ < k)) w' → wpList P l.toArray Q (rest l.toArray es (l.length - k) k) { tmps := t'', defers := d } w') 0 (l.take k) t') es t) :
  (Code.region id l.toArray true).wp P Q { tmps := t, defers := d } w := by
 have hQ : ∀ c (a : Act) dst v w, Q (.panic c) (a.put dst v) w → Q (.panic c) a w := fun c a dst v w h => by
  cases dst with
  | none => exact h
  | some x => exact hQ0 c a x v w h
 simp only [mixOk, Bool.and_eq_true, decide_eq_true_eq, Bool.not_eq_true'] at hok
 obtain ⟨⟨⟨⟨⟨⟨⟨hok, hes⟩, hμ⟩, ht⟩, hk⟩, htk⟩, hns⟩, hcnt⟩ := hok
 have ok := okOps_spec hok
 have hlen : l.toArray.size = l.length := by simp
 have helt : ∀ e ∈ es, e < l.toArray.size := fun e he => by
  have := List.all_eq_true.1 hes e he
  cases ho : l.toArray[e]? with
  | none => rw [ho] at this; simp at this
  | some o => exact lt_of_some ho
 refine wp_region_any hm ?_
 obtain ⟨f, hf⟩ : ∃ f, l.toArray.size = f + es.length := ⟨l.toArray.size - es.length, by omega⟩
 have hfold := fold_getD (n := l.toArray.size) es (Array.replicate l.toArray.size false) (by simp) helt
 have hgd : ∀ j, (es.foldl (fun L e => L.setIfInBounds e true) (Array.replicate l.toArray.size false)).getD j false = es.contains j := fun j => by rw [hfold.2 j, rep_false]; simp
 have main : wpAny P .any l.toArray Q (f + es.length) (Array.replicate l.toArray.size false) { tmps := t, defers := d } { w with drawn := w.drawn + 1 } := by
  refine any_take (R := _) ok hns hQ es _ f t (fun _ => undef) (by simp) htk (fr_start _ _ _ fun i _ => rep_false _ i) h fun t' val0 hfr hR => ?_
  have hfr0 : Fr l.toArray val0 { tmps := t, defers := d } (fun j => decide (j < 0) || es.contains j) { tmps := t', defers := d } := fr_congr hfr (fun j _ => by rw [hgd]; simp) (fun _ _ => rfl)
  obtain ⟨val, hv, hsteps, t'', hfx, hR'⟩ := seqM_vals ok hS (l.take k) 0 val0 t' (fun j o hj => by
   rw [List.getElem?_take] at hj
   split at hj
   ·simpa using hj
   ·cases hj) hfr0 hR
  have hlk : 0 + (l.take k).length = k := by rw [List.length_take]; omega
  rw [hlk] at hsteps hfx
  refine any_mix ok (S := S) (μ := μ) (k := k) (es := es) hes hμ (by omega) ht (val := val) (a0 := { tmps := t, defers := d }) (fun i o hi he ho => hsteps i o (Nat.zero_le _) hi he ho) (fun y hy w' hS' => ?_) _ _ _ _ hfold.1 ?_ ?_ ?_ ?_ ?_ ?_
  ·rw [fr_eq hy hfx fun _ _ => rfl]
   exact hR' w' hS'
  ·rw [show (fun i => (es.foldl (fun L e => L.setIfInBounds e true) (Array.replicate l.toArray.size false)).getD i false) = fun j => es.contains j from funext hgd]
   omega
  ·intro i o hi hl e he hb
   rw [hgd] at hl ⊢
   exact esOk_spec hes hi hl e he hb
  ·intro i hi hl
   rw [hgd] at hl
   exact .inr hl
  ·intro i hi he
   rw [hgd]; exact he
  ·exact fr_congr hfr (fun _ _ => rfl) (fun j hj => hv j (.inr (by rw [hgd] at hj; exact hj)))
  ·rw [hgd, hμ]; exact hS
 rw [← hf] at main
 exact main
theorem rest_drop {es : List Nat} : ∀ (n m : Nat), m + n = ops.size → (∀ e ∈ es, e < m) → rest ops es n m = ops.toList.drop m
 | 0, m, h, _ => by
  rw [List.drop_eq_nil_of_le (by simp; omega)]
  rfl
 | n + 1, m, h, he => by
  have ho : ops[m]? = some ops[m] := Array.getElem?_eq_getElem (by omega)
  have hc : es.contains m = false := by
   cases hc : es.contains m with
   | false => rfl
   | true => have := he m (by simpa using hc); omega
  simp only [rest, ho, hc, Bool.false_eq_true, if_false]
  rw [rest_drop n (m + 1) (by omega) (fun e h => Nat.lt_succ_of_lt (he e h)), drop_cons ho]
theorem region_mix' {id : Nat} {l : List Oper} {t : Array Value} {d : List Deferred} {w : World} (S : Bool → World → Prop) (μ k : Nat) (es : List Nat) (hm : P.follows .mixedOrders = true) (hok : (mixOk l.toArray μ k es && es.all fun e => decide (e < k)) = true)
  (hQ0 : ∀ c (a : Act) (x : Tmp) v w, Q (.panic c) (a.put (some x) v) w → Q (.panic c) a w) (hS : S false w.drew)
  (h : SeqE P l.toArray d (fun t' => SeqM P l.toArray S μ es d (fun t'' => ∀ w', S (decide (μ < k)) w' → wpList P l.toArray Q (l.drop k) { tmps := t'', defers := d } w') 0 (l.take k) t') es t) :
  (Code.region id l.toArray true).wp P Q { tmps := t, defers := d } w := by
 simp only [Bool.and_eq_true, List.all_eq_true, decide_eq_true_eq] at hok
 have hk : k ≤ l.length := by
  have := hok.1
  simp only [mixOk, Bool.and_eq_true, decide_eq_true_eq] at this
  have := this.1.1.1.2
  simpa using this
 refine region_mix S μ k es hm hok.1 hQ0 hS ?_
 rw [rest_drop (ops := l.toArray) (l.length - k) k (by simp; omega) hok.2]
 exact h
end Go.Mix
namespace Go.Proofs.Ytbddfnmhhmkfkaa.Pr
set_option linter.unusedVariables false
set_option linter.unusedSimpArgs false
open Go.RowKit Go.Proofs.YtbddfnmhhmkfkaaW.PrintWords
attribute [local go_sem] Oper.semAt_some
def Tells (f : Nat) (T : S43 → Int) : Prop := (f = 81 ∨ f = 82 ∨ f = 83) ∧ ∀ (a0 a1 a2 a3 a4 : Int) (w : World), Calls Try.prog f #[.agg #[.int .i64 a0, .int .i64 a1, .int .i64 a2, .int .i64 a3, .int .i64 a4]] w fun e w' => e = .returned (.int .i64 (T ⟨a0, a1, a2, a3, a4⟩)) ∧ Below w.heap.size w w'
def wideT (x : S43) : Int := if x.f0 = 3 then 0 else x.f1
def growT (x : S43) : Int := if x.f0 = 2 then x.f2 else 0
def shrinkT (x : S43) : Int := if x.f0 = 2 then x.f3 else 0
theorem wide_tells : Tells 81 wideT := ⟨by decide, fun a0 a1 a2 a3 a4 w => lines_wide.calls a0 a1 a2 a3 a4 _ w (by unfold lines_wide.f wideT; split <;> rfl)⟩
theorem grow_tells : Tells 82 growT := ⟨by decide, fun a0 a1 a2 a3 a4 w => lines_grows.calls a0 a1 a2 a3 a4 _ w (by unfold lines_grows.f growT; split <;> rfl)⟩
theorem shrink_tells : Tells 83 shrinkT := ⟨by decide, fun a0 a1 a2 a3 a4 w => lines_shrinks.calls a0 a1 a2 a3 a4 _ w (by unfold lines_shrinks.f shrinkT; split <;> rfl)⟩
def sumT (T : S43 → Int) (l : List S43) (k : Nat) : Int := (l.take k).foldl (fun n x => wrap64 (n + T x)) 0
theorem sumT_succ (T : S43 → Int) (l : List S43) (k : Nat) (h : k < l.length) : sumT T l (k + 1) = wrap64 (sumT T l k + T (rd_T43 l k)) := by
 have h1 : l[k]? = some (rd_T43 l k) := by
  unfold rd_T43
  rw [Int.toNat_natCast, List.getD_eq_getElem?_getD, List.getElem?_eq_getElem h]
  rfl
 unfold sumT
 rw [List.take_add_one, h1]
 simp only [Option.toList_some, List.foldl_append, List.foldl_cons, List.foldl_nil]
set_option maxRecDepth 100000 in
set_option maxHeartbeats 2000000 in
theorem sum_calls (f : Nat) (T : S43 → Int) (HT : Tells f T) (A : Option Addr) (c : Nat) (l : List S43) (w : World) (hl : l.length ≤ 1000000) (hA : Kd.C k43 w A l.length l) :
  Calls Try.prog 80 #[.slice A l.length c, .func (.func f) #[] #[]] w fun e w' => e = .returned (.int .i64 (sumT T l l.length)) ∧ Below w.heap.size w w' := by
 have HA := Lib.hid hA
 obtain ⟨hf, hT⟩ := HT
 have HT := Lib.hid hT
 obtain ⟨n, hn⟩ : ∃ n, l.length = n := ⟨_, rfl⟩
 rw [hn] at hA hl ⊢
 have HN := Lib.hid hn
 clear hn hA hT
 rcases hf with rfl | rfl | rfl
 all_goals
  go_enter Try.func80, Try.ntmps80
  go_wp2_with fail
  go_loopw [5, 10] (fun v5 v10 wr => ∃ (k : Nat), v10 = .int .i64 k ∧ k ≤ n ∧ v5 = .int .i64 (sumT T l k) ∧ Below w.heap.size w wr) (fun _ v _ => n - (intOf v).toNat)
  case atStart => exact ⟨0, rfl, Nat.zero_le _, rfl, Below.refl _ _⟩
  case round =>
   obtain ⟨k, rfl, hk, rfl, hB⟩ := hrel
   by_cases hlt : k < n
   ·have hlt1 : (k : Int) < (n : Int) := by omega
    obtain ⟨ad, e1, q0, q1, q2, q3, q4⟩ := at_T43 (Kd.C_below HA.out hB) k (by omega) (by have := HN.out; omega)
    cases e1
    have hnx := Lib.hid (sumT_succ T l k (by have := HN.out; omega))
    generalize rd_T43 l k = x at *
    obtain ⟨f0, f1, f2, f3, f4⟩ := x
    simp only [Int.toNat_natCast] at q0 q1 q2 q3 q4
    go_wp2_with fail
    refine (HT.out f0 f1 f2 f3 f4 _).mono ?_
    rintro _ w2 ⟨rfl, hb⟩
    replace hb := (hB.alloc hB.size _).trans (hb.mono (by have := hB.size; simp; omega))
    go_wp2
    go_roundw
    case rel => exact ⟨k + 1, by go_num, by omega, by rw [hnx.out], hb⟩
    case measure => simp [intOf]; omega
   ·obtain rfl : k = n := by omega
    have hlt1 : ¬ (k : Int) < (k : Int) := by omega
    go_wp2
    go_ret
    exact ⟨rfl, hB⟩
theorem below_both {B : Nat} {w W : World} (h : Below B w W) (p : Addr) (u : Value) : Below B (w.setCell p u) (W.setCell p u) :=
 ⟨h.os, h.tape, h.output, by simpa [World.setCell] using h.size, fun k hk => by simp only [World.setCell, Array.getElem?_modify, h.block k hk]⟩
def quoP (s a all : Int) : Int := wrap64 (Int.tdiv (wrap64 (s * a)) all)
def shareP (s all a t : Int) : Int := wrap64 (quoP s (wrap64 (a + t)) all - quoP s a all)
theorem share_none (x : S43) (gA gS gH gT : Nat) (w : World) (hA : w.heap[gA]? = some (.cells #[.int .i64 0] 3 (0, 0))) :
  Calls Try.prog 84 #[.agg #[.int .i64 x.f0, .int .i64 x.f1, .int .i64 x.f2, .int .i64 x.f3, .int .i64 x.f4], .pointer (some ⟨gA, 0, none⟩), .pointer (some ⟨gS, 0, none⟩), .pointer (some ⟨gH, 0, none⟩), .pointer (some ⟨gT, 0, none⟩)] w fun e w' => e = .returned (.int .i64 0) ∧ Below w.heap.size w w' := by
 have hA1 := blk_cell (blk_alloc hA (.cells #[.int .i64 x.f0, .int .i64 x.f1, .int .i64 x.f2, .int .i64 x.f3, .int .i64 x.f4] 43)) 0
 simp only [List.getElem?_toArray, List.getElem?_cons_zero] at hA1
 go_enter Try.func84, Try.ntmps84
 go_wp2
 go_ret
 exact ⟨rfl, (Below.refl _ w).alloc (Nat.le_refl _) _⟩
set_option maxRecDepth 100000 in
set_option maxHeartbeats 2000000 in
theorem share_some (f : Nat) (T : S43 → Int) (HT : Tells f T) (x : S43) (all s a : Int) (gA gS gH gT : Nat) (w : World) (h0 : all ≠ 0) (hA : w.heap[gA]? = some (.cells #[.int .i64 all] 3 (0, 0))) (hS : w.heap[gS]? = some (.cells #[.int .i64 s] 3 (0, 0)))
  (hH : w.heap[gH]? = some (.cells #[.int .i64 a] 3 (0, 0))) (hT : w.heap[gT]? = some (.cells #[.func (.func f) #[] #[]] 118 (0, 0))) (nA : gA ≠ gH) (nS : gS ≠ gH) (nT : gT ≠ gH) :
  Calls Try.prog 84 #[.agg #[.int .i64 x.f0, .int .i64 x.f1, .int .i64 x.f2, .int .i64 x.f3, .int .i64 x.f4], .pointer (some ⟨gA, 0, none⟩), .pointer (some ⟨gS, 0, none⟩), .pointer (some ⟨gH, 0, none⟩), .pointer (some ⟨gT, 0, none⟩)] w fun e w' =>
   e = .returned (.int .i64 (shareP s all a (T x))) ∧ Below w.heap.size (w.setCell ⟨gH, 0, none⟩ (.int .i64 (wrap64 (a + T x)))) w' := by
 obtain ⟨hf, hT'⟩ := HT
 have HF := Lib.hid hT'
 obtain ⟨f0, f1, f2, f3, f4⟩ := x
 have h0b : (all == 0) = false := beq_eq_false_iff_ne.2 h0
 have hx := blk_new w (.cells #[.int .i64 f0, .int .i64 f1, .int .i64 f2, .int .i64 f3, .int .i64 f4] 43)
 have hlt := blk_lt hH
 have hA1 := blk_alloc hA (.cells #[.int .i64 f0, .int .i64 f1, .int .i64 f2, .int .i64 f3, .int .i64 f4] 43)
 have hS1 := blk_alloc hS (.cells #[.int .i64 f0, .int .i64 f1, .int .i64 f2, .int .i64 f3, .int .i64 f4] 43)
 have hH1 := blk_alloc hH (.cells #[.int .i64 f0, .int .i64 f1, .int .i64 f2, .int .i64 f3, .int .i64 f4] 43)
 have hT1 := blk_alloc hT (.cells #[.int .i64 f0, .int .i64 f1, .int .i64 f2, .int .i64 f3, .int .i64 f4] 43)
 obtain ⟨w1, hw1⟩ : ∃ w1, w.alloc (.cells #[.int .i64 f0, .int .i64 f1, .int .i64 f2, .int .i64 f3, .int .i64 f4] 43) = w1 := ⟨_, rfl⟩
 rw [hw1] at hx hA1 hS1 hH1 hT1
 have hsz : w1.heap.size = w.heap.size + 1 := by rw [← hw1]; simp
 have cA := blk_cell hA1 0
 have cS := blk_cell hS1 0
 have cH := blk_cell hH1 0
 simp only [List.getElem?_toArray, List.getElem?_cons_zero] at cA cS cH
 have HW1 := Lib.hid hw1
 have HX := Lib.hid hx
 have HA1 := Lib.hid hA1
 have HS1 := Lib.hid hS1
 have HH1 := Lib.hid hH1
 have HT1 := Lib.hid hT1
 go_enter Try.func84, Try.ntmps84
 clear hx hA1 hS1 hH1 hT1
 go_wp2_with fail
 clear hw1
 rcases hf with rfl | rfl | rfl
 all_goals
  refine Go.Det.region_det (fun W => Below w1.heap.size w1 W) 5 (by kernel_rfl) (by kernel_rfl) (by kernel_rfl) (by decide) (below_drew1 (Below.refl _ _)) ?_
  repeat
   apply Go.Det.seqW_cons
   focus
    intro W hS
    replace hS : Below w1.heap.size w1 W := hS
    have x0 := blk_cell (blk_below HX.out hS) 0
    have x1 := blk_cell (blk_below HX.out hS) 1
    have x2 := blk_cell (blk_below HX.out hS) 2
    have x3 := blk_cell (blk_below HX.out hS) 3
    have x4 := blk_cell (blk_below HX.out hS) 4
    have xH := blk_cell (blk_below HH1.out hS) 0
    have xT := blk_cell (blk_below HT1.out hS) 0
    simp only [List.getElem?_toArray, List.getElem?_cons_succ, List.getElem?_cons_zero] at x0 x1 x2 x3 x4 xH xT
    go_wp2_with (refine (HF.out f0 f1 f2 f3 f4 _).mono ?_; rintro _ W2 ⟨rfl, hb⟩; replace hS := hS.trans (hb.mono hS.size))
    exact Go.Det.AtEnd.mk hS
  refine Go.Det.seqW_nil ?_
  intro W hS
  replace hS : Below w1.heap.size w1 W := hS
  have yH := blk_below HH1.out hS
  have yA := blk_below HA1.out hS
  have yS := blk_below HS1.out hS
  have zH := blk_frozen yH 0
  have kH := blk_cell yH 0
  have kH' := blk_cell (blk_set yH 0 (.int .i64 (wrap64 (a + T ⟨f0, f1, f2, f3, f4⟩)))) 0
  have kA := blk_cell (blk_far yA (p := ⟨gH, 0, none⟩) nA (.int .i64 (wrap64 (a + T ⟨f0, f1, f2, f3, f4⟩)))) 0
  have kS := blk_cell (blk_far yS (p := ⟨gH, 0, none⟩) nS (.int .i64 (wrap64 (a + T ⟨f0, f1, f2, f3, f4⟩)))) 0
  have hfin : Below w.heap.size (w.setCell ⟨gH, 0, none⟩ (.int .i64 (wrap64 (a + T ⟨f0, f1, f2, f3, f4⟩)))) (W.setCell ⟨gH, 0, none⟩ (.int .i64 (wrap64 (a + T ⟨f0, f1, f2, f3, f4⟩)))) := by
   refine below_both ?_ _ _
   have hB1 := (Below.refl w.heap.size w).alloc (Nat.le_refl _) (.cells #[.int .i64 f0, .int .i64 f1, .int .i64 f2, .int .i64 f3, .int .i64 f4] 43)
   rw [HW1.out] at hB1
   exact hB1.trans (hS.mono (by omega))
  have HFin := Lib.hid hfin
  clear hfin
  simp only [List.getElem?_toArray, List.getElem?_cons_succ, List.getElem?_cons_zero, List.setIfInBounds_toArray, List.set_cons_zero] at kH kH' kA kS
  clear hT' hS hA hH hT hlt yH yA yS hsz
  simp only [List.drop_succ_cons, List.drop_zero]
  go_wp2
  go_ret
  exact ⟨rfl, HFin.out⟩
def showP (toks : List S101) (x : S43) : Int × Bool :=
 if x.f0 = 3 then (45, true) else if 0 ≤ x.f4 ∧ x.f4 < (toks.length : Int) then
  (if x.f0 = 4 then (42, decide ((rd_T101 toks x.f4).f0 = 2) && (rd_T101 toks x.f4).f1 == 110) else ((rd_T101 toks x.f4).f1, (rd_T101 toks x.f4).f0 == 1)) else (0, false)
theorem shows_ev (toks : List S101) (x : S43) : lines_shows.f 1 toks x.f0 x.f1 x.f2 x.f3 x.f4 = some (showP toks x) := by
 unfold lines_shows.f showP
 by_cases h3 : x.f0 = 3
 ·rw [if_pos h3, if_pos h3]
 ·rw [if_neg h3, if_neg h3]
  by_cases h0 : x.f4 < 0
  ·rw [if_pos h0, if_neg (by omega)]
   rfl
  ·rw [if_neg h0]
   by_cases h1 : x.f4 < (toks.length : Int)
   ·rw [if_pos (⟨by omega, h1⟩ : _ ∧ _), show decide (x.f4 ≥ (toks.length : Int)) = false by simp; omega]
    rw [lines_shows.j0.eq_2, if_neg (by simp), if_pos (by omega), if_pos h1]
    by_cases h4 : x.f0 = 4
    ·rw [if_pos h4, if_pos h4]
     by_cases h2 : (rd_T101 toks x.f4).f0 = 2
     ·rw [if_pos h2]; simp [h2]
     ·rw [if_neg h2]; simp [h2]
    ·rw [if_neg h4, if_neg h4]
   ·rw [if_neg (by omega), show decide (x.f4 ≥ (toks.length : Int)) = true by simp; omega]
    rw [lines_shows.j0.eq_2, if_pos rfl]
def whatP (k : Int) : Int := if k = 3 then 1 else if k = 4 then 2 else 0
def spotP (toks : List S101) (x : S43) (at_ : Int) : S57 := ⟨at_, (showP toks x).1, whatP x.f0, x.f4⟩
def flat57 (xs : List S57) : List Value := xs.flatMap fun x => [.int .i64 x.f0, .int .u8 x.f1, .int .i64 x.f2, .int .i64 x.f3]
theorem flat57_length (xs : List S57) : (flat57 xs).length = xs.length * 4 := by
 induction xs with
 | nil => rfl
 | cons x xs ih => simp [flat57] at ih ⊢; omega
theorem flat57_snoc (xs : List S57) (x : S57) : flat57 (xs ++ [x]) = flat57 xs ++ [.int .i64 x.f0, .int .u8 x.f1, .int .i64 x.f2, .int .i64 x.f3] := by simp [flat57]
structure KeepS (w w' : World) (g : Nat) (v : Value) : Prop where
 os : w'.os = w.os
 tape : w'.tape = w.tape
 output : w'.output = w.output
 size : w.heap.size ≤ w'.heap.size
 block : ∀ i, i < w.heap.size → i ≠ g → some i ≠ v.ownBlock → w'.heap[i]? = w.heap[i]?
set_option maxRecDepth 100000 in
set_option maxHeartbeats 2000000 in
theorem show_calls (At : Option Addr) (ct : Nat) (toks : List S101) (g base : Nat) (v : Value) (sp : List S57) (wd bits : Int) (x : S43) (d : Int) (w : World)
  (hct : toks.length ≤ ct) (hT : Kd.C k101 w At toks.length toks) (hg : w.heap[g]? = some (.cells #[v, .int .i64 wd, .int .i64 bits, .slice At toks.length ct] 120 (0, 0)))
  (hown : w.ownsRow base 57 4 v sp.length (flat57 sp)) (hbase : base ≤ w.heap.size) (hn : sp.length ≤ 1000000) (hk : x.f0 = 1 ∨ x.f0 = 2 ∨ x.f0 = 3 ∨ x.f0 = 4) :
  Calls Try.prog 85 #[.pointer (some ⟨g, 0, none⟩), .agg #[.int .i64 x.f0, .int .i64 x.f1, .int .i64 x.f2, .int .i64 x.f3, .int .i64 x.f4], .int .i64 d] w fun e w' => e = .returned (.tuple #[]) ∧ ∃ v',
   w'.heap[g]? = some (.cells #[v', .int .i64 (wrap64 (wd + d)), .int .i64 bits, .slice At toks.length ct] 120 (0, 0)) ∧ w'.ownsRow base 57 4 v' (sp.length + 1) (flat57 (sp ++ [spotP toks x wd])) ∧ KeepS w w' g v ∧ (v'.ownBlock = v.ownBlock ∨ ∃ j, v'.ownBlock = some j ∧ w.heap.size ≤ j) := by
 obtain ⟨⟨c, b⟩, hcb⟩ : ∃ p, showP toks x = p := ⟨_, rfl⟩
 have hev := shows_ev toks x
 rw [hcb] at hev
 have hsh := fun W hW => lines_shows.calls 1 At ct toks x.f0 x.f1 x.f2 x.f3 x.f4 c b W (Kd.C_below hT hW) hct hev
 have hspot : spotP toks x wd = ⟨wd, c, whatP x.f0, x.f4⟩ := by unfold spotP; rw [hcb]
 rw [hspot]
 have HSH := Lib.hid hsh
 clear hsh hev hspot hcb
 have hgl := blk_lt hg
 have hne := own_apart hown hg (by decide)
 obtain ⟨f0, f1, f2, f3, f4⟩ := x
 have hx := blk_new w (.cells #[.int .i64 f0, .int .i64 f1, .int .i64 f2, .int .i64 f3, .int .i64 f4] 43)
 have hg1 := blk_alloc hg (.cells #[.int .i64 f0, .int .i64 f1, .int .i64 f2, .int .i64 f3, .int .i64 f4] 43)
 have hown1 := hown.alloc (.cells #[.int .i64 f0, .int .i64 f1, .int .i64 f2, .int .i64 f3, .int .i64 f4] 43)
 have hB1 := (Below.refl w.heap.size w).alloc (Nat.le_refl _) (.cells #[.int .i64 f0, .int .i64 f1, .int .i64 f2, .int .i64 f3, .int .i64 f4] 43)
 obtain ⟨w1, hw1⟩ : ∃ w1, w.alloc (.cells #[.int .i64 f0, .int .i64 f1, .int .i64 f2, .int .i64 f3, .int .i64 f4] 43) = w1 := ⟨_, rfl⟩
 rw [hw1] at hx hg1 hown1 hB1
 have hsz : w1.heap.size = w.heap.size + 1 := by rw [← hw1]; simp
 have HX := Lib.hid hx
 have HG1 := Lib.hid hg1
 have HB1 := Lib.hid hB1
 have HOW1 := Lib.hid hown1
 have cx0 := blk_cell hx 0
 simp only [List.getElem?_toArray, List.getElem?_cons_zero] at cx0
 have hix : ∀ W : World, (Instr.index 127 (.agg #[.int .i64 0, .int .i64 0, .int .i64 0, .int .i64 1, .int .i64 2]) (.int .i64 f0)).run Try.prog W = .ok (.int .i64 (whatP f0)) W := fun W => by
  rcases hk with h | h | h | h <;> (simp only at h; subst h; rfl)
 clear hx hg1 hB1 hown1 hown hg hT
 generalize whatP f0 = wh at *
 go_enter Try.func85, Try.ntmps85
 go_wp2_with fail
 clear hix hk cx0 hw1
 refine Go.Det.region_all (fun W => Below w1.heap.size w1 W) (by kernel_rfl) (by kernel_rfl) (below_drew1 (Below.refl _ _)) ?_
 repeat
  apply Go.Det.seqW_cons
  focus
   intro W hS
   replace hS : Below w1.heap.size w1 W := hS
   have x0 := blk_cell (blk_below HX.out hS) 0
   have x1 := blk_cell (blk_below HX.out hS) 1
   have x2 := blk_cell (blk_below HX.out hS) 2
   have x3 := blk_cell (blk_below HX.out hS) 3
   have x4 := blk_cell (blk_below HX.out hS) 4
   have xT := blk_cell (blk_below HG1.out hS) 3
   simp only [List.getElem?_toArray, List.getElem?_cons_succ, List.getElem?_cons_zero] at x0 x1 x2 x3 x4 xT
   go_wp2_with (refine (HSH.out _ (HB1.out.trans (hS.mono (by omega)))).mono ?_; rintro _ W2 ⟨rfl, hb⟩; replace hS := hS.trans (hb.mono hS.size))
   exact Go.Det.AtEnd.mk hS
 refine Go.Det.seqW_nil ?_
 intro W1 hS
 replace hS : Below w1.heap.size w1 W1 := hS
 have hg2 := blk_below HG1.out hS
 have hx2 := blk_below HX.out hS
 have ho2 := pw_own_below HOW1.out hS
 have hB2 : Below w.heap.size w W1 := HB1.out.trans (hS.mono (by omega))
 have hs2 := hS.size
 simp only [Exit.then]
 go_wp2_with fail
 obtain ⟨W2, hW2⟩ : ∃ W2, W1.drew = W2 := ⟨_, rfl⟩
 have hg3 : W2.heap[g]? = some (.cells #[v, .int .i64 wd, .int .i64 bits, .slice At toks.length ct] 120 (0, 0)) := by rw [← hW2]; exact hg2
 have hx3 : W2.heap[w.heap.size]? = some (.cells #[.int .i64 f0, .int .i64 f1, .int .i64 f2, .int .i64 f3, .int .i64 f4] 43 (0, 0)) := by rw [← hW2]; exact hx2
 have ho3 : W2.ownsRow base 57 4 v sp.length (flat57 sp) := by rw [← hW2]; exact own_drew ho2
 have hB3 : Below w.heap.size w W2 := by rw [← hW2]; exact below_drew1 hB2
 have hs3 : w.heap.size < W2.heap.size := blk_lt hx3
 clear hg2 hx2 ho2 hB2 hS hs2
 have HG3 := Lib.hid hg3
 have HX3 := Lib.hid hx3
 have HO3 := Lib.hid ho3
 have HB3 := Lib.hid hB3
 clear hg3 hx3 ho3 hB3
 refine Go.Mix.region_mix' (fun b W => W = (bif b then W2.alloc (.cells #[.int .i64 wd, .int .u8 c, .int .i64 wh, .int .i64 f4] 57) else W2)) 16 17 [0] (by kernel_rfl) (by kernel_rfl) (fun _ _ _ _ _ h => h) hW2 ?_
 clear hW2
 refine Go.Mix.seqE_cons (t' := #[_, _, _, _, _, _, _, _, _, _, _, _, _, _, _, _, _, _, _, _, _, _, _, _, _, _, _, _, _, _, _, _, _, _, _, _, _, _, _, _, _, _, _, _, _, _, _, _, _, _, _, _, _]) _ (.pointer (some ⟨g, 0, none⟩)) rfl rfl (fun w' => rfl) rfl ?_
 refine Go.Mix.seqE_nil ?_
 refine Go.Mix.seqM_skip (by rfl) ?_
 repeat
  apply Go.Mix.seqM_cons (by rfl) (by rfl)
  focus
   intro b W hS
   have hB : Below W2.heap.size W2 W := by
    rw [hS]
    cases b
    ·exact Below.refl _ _
    ·exact (Below.refl _ _).alloc (Nat.le_refl _) _
   have x4 := blk_cell (blk_below HX3.out hB) 4
   have x0 := blk_cell (blk_below HG3.out hB) 0
   have x1 := blk_cell (blk_below HG3.out hB) 1
   simp only [List.getElem?_toArray, List.getElem?_cons_succ, List.getElem?_cons_zero] at x0 x1 x4
   have HS := Lib.hid hS
   clear hS hB
   go_wp2
   exact Go.Det.AtEnd.mk HS.out
 apply Go.Mix.seqM_main (by rfl)
 focus
  intro W hS
  obtain rfl : W = W2 := hS
  go_wp2
  exact Go.Det.AtEnd.mk rfl
 refine Go.Mix.seqM_nil ?_
 intro W3 hW3
 obtain rfl : W3 = W2.alloc (.cells #[.int .i64 wd, .int .u8 c, .int .i64 wh, .int .i64 f4] 57) := hW3
 simp only [List.drop_succ_cons, List.drop_zero]
 obtain ⟨i0, hi, hz0, hz1, hz2⟩ := info_parts info57
 go_wp2_with (at_builtin; refine wpList_append_own_at _ rfl _ _ 53 rfl base 57 i0 (.agg #[(.int .i64 0), (.int .u8 0), (.int .i64 0), (.int .i64 0)]) 4 32 Try.underlying53 hi hz0 hz1 hz2 rfl (by decide) _ _ _ rfl (HO3.out.alloc _) _ 1 1 [.int .i64 wd, .int .u8 c, .int .i64 wh, .int .i64 f4] rfl rfl ?e1 ?e2 ?e3 ?e4 ?e5 ?e6)
 case e1 => exact cells_new W2 [.int .i64 wd, .int .u8 c, .int .i64 wh, .int .i64 f4] 57
 case e2 => simp [Value.oneCell']
 case e3 => unfold maxLen; omega
 case e4 => omega
 case e5 => simp; omega
 case e6 =>
  intro v' W4 hown' hgrow _ hat
  obtain ⟨A', c', rfl⟩ := own_slice hown'
  have hg4 := blk_grown (blk_alloc HG3.out (.cells #[.int .i64 wd, .int .u8 c, .int .i64 wh, .int .i64 f4] 57)) hgrow hne
  have hgne := own_apart hown' hg4 (by decide)
  have e0 := blk_cell hg4 0
  have e1 := blk_cell hg4 1
  have z0 := blk_frozen hg4 0
  have z1 := blk_frozen hg4 1
  simp only [List.getElem?_toArray, List.getElem?_cons_succ, List.getElem?_cons_zero] at e0 e1
  have hblk := blk_set (blk_set hg4 0 (.slice A' (sp.length + 1) c')) 1 (.int .i64 (wrap64 (wd + d)))
  have hrow := own_setCell (own_setCell hown' (p := ⟨g, 0, none⟩) hgne (.slice A' (sp.length + 1) c')) (p := ⟨g, 1, none⟩) hgne (.int .i64 (wrap64 (wd + d)))
  have hkeep : KeepS w ((W4.setCell ⟨g, 0, none⟩ (.slice A' (sp.length + 1) c')).setCell ⟨g, 1, none⟩ (.int .i64 (wrap64 (wd + d)))) g v := by
   have hB := HB3.out
   refine ⟨hgrow.os.trans hB.os, hgrow.tape.trans hB.tape, hgrow.output.trans hB.output, ?_, fun i hi h1 h2 => ?_⟩
   ·have := hgrow.size
    have := hB.size
    simp [World.setCell] at *
    omega
   ·rw [Below.heap_setCell _ _ _ _ h1, Below.heap_setCell _ _ _ _ h1, hgrow.block i (by simp; omega) h2, Below.heap_alloc _ _ _ (by omega)]
    exact hB.block i hi
  have hat' : (Value.slice A' (sp.length + 1) c').ownBlock = v.ownBlock ∨ ∃ j, (Value.slice A' (sp.length + 1) c').ownBlock = some j ∧ w.heap.size ≤ j := hat.imp id fun h => ⟨_, h, by omega⟩
  rw [← flat57_snoc sp ⟨wd, c, wh, f4⟩] at hrow
  have H1 := Lib.hid hblk
  have H2 := Lib.hid hrow
  have H3 := Lib.hid hkeep
  have H4 := Lib.hid hat'
  clear hblk hrow hkeep hat' hat hown' hgrow hgne hg4 hne
  go_wp2
  refine bodyPost_end (results_none rfl _ _ _) rfl ?_
  exact ⟨rfl, _, H1.out, H2.out, H3.out, H4.out⟩
end Go.Proofs.Ytbddfnmhhmkfkaa.Pr
namespace Go.Proofs.Ytbddfnmhhmkfkaa.Pr
set_option linter.unusedVariables false
set_option linter.unusedSimpArgs false
open Go.RowKit Go.Proofs.YtbddfnmhhmkfkaaW.PrintWords
structure SetG where
 r : Nat
 s : Nat
 t : Nat
 a : Nat
 x : Nat
 h : Nat
structure SetG.Ok (G : SetG) (n B : Nat) : Prop where
 lo : n ≤ G.r ∧ n ≤ G.s ∧ n ≤ G.t ∧ n ≤ G.a ∧ n ≤ G.x ∧ n ≤ G.h
 hi : G.r < B ∧ G.s < B ∧ G.t < B ∧ G.a < B ∧ G.x < B ∧ G.h < B
 nh : G.r ≠ G.h ∧ G.s ≠ G.h ∧ G.t ≠ G.h ∧ G.a ≠ G.h ∧ G.x ≠ G.h
 nx : G.r ≠ G.x ∧ G.s ≠ G.x ∧ G.t ≠ G.x ∧ G.a ≠ G.x
structure SetI (w W : World) (B : Nat) (G : SetG) (f : Nat) (At : Option Addr) (nt ct : Nat) (all slack ahead width : Int) (sp : List S57) (v : Value) : Prop where
 hS : W.heap[G.s]? = some (.cells #[.int .i64 slack] 3 (0, 0))
 hT : W.heap[G.t]? = some (.cells #[.func (.func f) #[] #[]] 118 (0, 0))
 hA : W.heap[G.a]? = some (.cells #[.int .i64 all] 3 (0, 0))
 hH : W.heap[G.h]? = some (.cells #[.int .i64 ahead] 3 (0, 0))
 hX : W.heap[G.x]? = some (.cells #[v, .int .i64 width, .int .i64 0, .slice At nt ct] 120 (0, 0))
 hR : W.heap[G.r]? = some (.cells #[.slice none 0 0, .int .i64 0, .int .i64 0] 55 (0, 0))
 own : W.ownsRow B 57 4 v sp.length (flat57 sp)
 le : B ≤ W.heap.size
 hB : Below w.heap.size w W
theorem SetI.below {w W W' : World} {B : Nat} {G : SetG} {f : Nat} {At : Option Addr} {nt ct : Nat} {all slack ahead width : Int} {sp : List S57} {v : Value} (h : SetI w W B G f At nt ct all slack ahead width sp v) (hb : Below W.heap.size W W') : SetI w W' B G f At nt ct all slack ahead width sp v :=
 ⟨blk_below h.hS hb, blk_below h.hT hb, blk_below h.hA hb, blk_below h.hH hb, blk_below h.hX hb, blk_below h.hR hb, pw_own_below h.own hb, Nat.le_trans h.le hb.size, h.hB.trans (hb.mono h.hB.size)⟩
theorem SetI.setH {w W : World} {B : Nat} {G : SetG} {f : Nat} {At : Option Addr} {nt ct : Nat} {all slack ahead width : Int} {sp : List S57} {v : Value} (g : G.Ok w.heap.size B) (h : SetI w W B G f At nt ct all slack ahead width sp v) (u : Int) : SetI w (W.setCell ⟨G.h, 0, none⟩ (.int .i64 u)) B G f At nt ct all slack u width sp v :=
 ⟨blk_far h.hS (p := ⟨G.h, 0, none⟩) g.nh.2.1 _, blk_far h.hT (p := ⟨G.h, 0, none⟩) g.nh.2.2.1 _, blk_far h.hA (p := ⟨G.h, 0, none⟩) g.nh.2.2.2.1 _, blk_put h.hH 0 _ rfl, blk_far h.hX (p := ⟨G.h, 0, none⟩) g.nh.2.2.2.2 _, blk_far h.hR (p := ⟨G.h, 0, none⟩) g.nh.1 _,
  ownsRow_setCell_below h.own (a := ⟨G.h, 0, none⟩) g.hi.2.2.2.2.2 _, by simpa [World.setCell] using h.le, h.hB.setCell (p := ⟨G.h, 0, none⟩) g.lo.2.2.2.2.2 _⟩
def aheadP (all a t : Int) : Int := if all = 0 then a else wrap64 (a + t)
def partP (s all a t : Int) : Int := if all = 0 then 0 else shareP s all a t
theorem set_share {w W : World} {B : Nat} {G : SetG} {f : Nat} {T : S43 → Int} {At : Option Addr} {nt ct : Nat} {all slack ahead width : Int} {sp : List S57} {v : Value} (HT : Tells f T) (g : G.Ok w.heap.size B) (h : SetI w W B G f At nt ct all slack ahead width sp v) (x : S43) :
  Calls Try.prog 84 #[.agg #[.int .i64 x.f0, .int .i64 x.f1, .int .i64 x.f2, .int .i64 x.f3, .int .i64 x.f4], .pointer (some ⟨G.a, 0, none⟩), .pointer (some ⟨G.s, 0, none⟩), .pointer (some ⟨G.h, 0, none⟩), .pointer (some ⟨G.t, 0, none⟩)] W fun e W' =>
   e = .returned (.int .i64 (partP slack all ahead (T x))) ∧ SetI w W' B G f At nt ct all slack (aheadP all ahead (T x)) width sp v ∧ ∀ (i : Nat) (o : Obj), i ≠ G.h → W.heap[i]? = some o → W'.heap[i]? = some o := by
 unfold partP aheadP
 by_cases h0 : all = 0
 ·subst h0
  rw [if_pos rfl, if_pos rfl]
  refine (share_none x G.a G.s G.h G.t W h.hA).mono ?_
  rintro _ W' ⟨rfl, hb⟩
  exact ⟨rfl, h.below hb, fun i o _ ho => blk_below ho hb⟩
 ·rw [if_neg h0, if_neg h0]
  refine (share_some f T HT x all slack ahead G.a G.s G.h G.t W h0 h.hA h.hS h.hH h.hT g.nh.2.2.2.1 g.nh.2.1 g.nh.2.2.1).mono ?_
  rintro _ W' ⟨rfl, hb⟩
  have hb' : Below (W.setCell ⟨G.h, 0, none⟩ (.int .i64 (wrap64 (ahead + T x)))).heap.size (W.setCell ⟨G.h, 0, none⟩ (.int .i64 (wrap64 (ahead + T x)))) W' := by simpa [World.setCell] using hb
  exact ⟨rfl, (h.setH g _).below hb', fun i o hi ho => blk_below ((Below.heap_setCell _ ⟨G.h, 0, none⟩ _ i hi).trans ho) hb'⟩
theorem set_show {w W : World} {B : Nat} {G : SetG} {f : Nat} {At : Option Addr} {ct : Nat} {toks : List S101} {all slack ahead width : Int} {sp : List S57} {v : Value} (g : G.Ok w.heap.size B) (hct : toks.length ≤ ct) (hT : Kd.C k101 w At toks.length toks) (h : SetI w W B G f At toks.length ct all slack ahead width sp v) (hn : sp.length ≤ 1000000) (x : S43) (d : Int) (hk : x.f0 = 1 ∨ x.f0 = 2 ∨ x.f0 = 3 ∨ x.f0 = 4) :
  Calls Try.prog 85 #[.pointer (some ⟨G.x, 0, none⟩), .agg #[.int .i64 x.f0, .int .i64 x.f1, .int .i64 x.f2, .int .i64 x.f3, .int .i64 x.f4], .int .i64 d] W fun e W' => e = .returned (.tuple #[]) ∧ ∃ v', SetI w W' B G f At toks.length ct all slack ahead (wrap64 (width + d)) (sp ++ [spotP toks x width]) v' := by
 refine (show_calls At ct toks G.x B v sp width 0 x d W hct (Kd.C_below hT h.hB) h.hX h.own h.le hn hk).mono ?_
 rintro _ W' ⟨rfl, v', hX, hown, hk, hat⟩
 have keep : ∀ (i : Nat) (t : TypeId) (cs : Array Value), i < B → i ≠ G.x → W.heap[i]? = some (.cells cs t (0, 0)) → W'.heap[i]? = some (.cells cs t (0, 0)) := fun i t cs hi hne ho => by
  refine (hk.block i (blk_lt ho) hne fun e => ?_).trans ho
  have := own_base h.own i e.symm
  omega
 refine ⟨rfl, v', keep _ _ _ g.hi.2.1 g.nx.2.1 h.hS, keep _ _ _ g.hi.2.2.1 g.nx.2.2.1 h.hT, keep _ _ _ g.hi.2.2.2.1 g.nx.2.2.2 h.hA, keep _ _ _ g.hi.2.2.2.2.2 g.nh.2.2.2.2.symm h.hH, hX, keep _ _ _ g.hi.1 g.nx.1 h.hR, by simpa using hown, Nat.le_trans h.le hk.size, ?_⟩
 refine h.hB.trans ⟨hk.os, hk.tape, hk.output, hk.size, fun i hi => ?_⟩
 have h1 := h.hB.size
 have h2 := g.lo.2.2.2.2.1
 refine hk.block i (by omega) (by omega) fun e => ?_
 have := own_base h.own i e.symm
 have := g.lo.1
 have := g.hi.1
 omega
end Go.Proofs.Ytbddfnmhhmkfkaa.Pr
namespace Go.Proofs.Ytbddfnmhhmkfkaa.Pr
set_option linter.unusedVariables false
set_option linter.unusedSimpArgs false
open Go.RowKit Go.Proofs.YtbddfnmhhmkfkaaW.PrintWords Go.Proofs.YtbddfnmhhmkfkaaW.PrintLast Go.Proofs.YtbddfnmhhmkfkaaW.PrintMore
theorem max_op (ats : Array TypeId) (ty : TypeId) (k : IntKind) (a b : Int) : Builtin.max_ ats ty #[.int k a, .int k b] = pure (.int k (mx a b)) := by
 rw [max_two, max2_int]
 rfl
theorem min_op (ats : Array TypeId) (ty : TypeId) (k : IntKind) (a b : Int) : Builtin.min_ ats ty #[.int k a, .int k b] = pure (.int k (mn a b)) := by
 rw [min_two, min2_int]
 rfl
attribute [local go_sem] Oper.semAt_some max_op min_op run_store_func
def dashN (n : Int) (dl : List S43) (k : Nat) : Int := (dl.take k).foldl (fun n x => wrap64 (n + x.f1)) n
def stepL (toks : List S101) (T : S43 → Int) (slack all : Int) (st : Int × Int × List S57) (x : S43) : Int × Int × List S57 :=
 if x.f0 = 3 then st else (aheadP all st.1 (T x), wrap64 (st.2.1 + wrap64 (x.f1 + partP slack all st.1 (T x))), st.2.2 ++ [spotP toks x st.2.1])
def lineL (toks : List S101) (T : S43 → Int) (slack all : Int) (l : List S43) (k : Nat) : Int × Int × List S57 := (l.take k).foldl (stepL toks T slack all) (0, 0, [])
def stepD (toks : List S101) (st : Int × List S57) (x : S43) : Int × List S57 := (wrap64 (st.1 + x.f1), st.2 ++ [spotP toks x st.1])
def lineD (toks : List S101) (st : Int × List S57) (dl : List S43) (k : Nat) : Int × List S57 := (dl.take k).foldl (stepD toks) st
theorem take_next {α β : Type} (f : β → α → β) (b : β) (l : List α) (k : Nat) (x : α) (h : l[k]? = some x) : (l.take (k + 1)).foldl f b = f ((l.take k).foldl f b) x := by
 rw [List.take_add_one, h]
 simp only [Option.toList_some, List.foldl_append, List.foldl_cons, List.foldl_nil]
theorem rd43_get (l : List S43) (k : Nat) (h : k < l.length) : l[k]? = some (rd_T43 l k) := by
 unfold rd_T43
 rw [Int.toNat_natCast, List.getD_eq_getElem?_getD, List.getElem?_eq_getElem h]
 rfl
def bitP (b : Bool) (k : Int) : Int := if b = true then shl .i64 1 k else 0
theorem bit_ev (b : Bool) (k : Int) (h : 0 ≤ k) : lines_bit.f b k = some (bitP b k) := by
 unfold lines_bit.f bitP
 cases b
 ·rfl
 ·rw [if_pos rfl, if_pos rfl, if_pos h]
theorem line_len (toks : List S101) (T : S43 → Int) (slack all : Int) (l : List S43) : ∀ k, (lineL toks T slack all l k).2.2.length ≤ k
 | 0 => by simp [lineL]
 | k + 1 => by
  have ih := line_len toks T slack all l k
  unfold lineL at ih ⊢
  rcases Nat.lt_or_ge k l.length with h | h
  ·rw [take_next _ _ _ _ _ (rd43_get l k h)]
   generalize (l.take k).foldl (stepL toks T slack all) (0, 0, []) = st at *
   unfold stepL
   split
   ·omega
   ·simp; omega
  ·rw [List.take_of_length_le (by omega)] at ih ⊢
   omega
theorem lineD_len (toks : List S101) (st : Int × List S57) (dl : List S43) : ∀ k, (lineD toks st dl k).2.length ≤ st.2.length + k
 | 0 => by simp [lineD]
 | k + 1 => by
  have ih := lineD_len toks st dl k
  unfold lineD at ih ⊢
  rcases Nat.lt_or_ge k dl.length with h | h
  ·rw [take_next _ _ _ _ _ (rd43_get dl k h)]
   generalize (dl.take k).foldl (stepD toks) st = st' at *
   unfold stepD
   simp; omega
  ·rw [List.take_of_length_le (by omega)] at ih ⊢
   omega
theorem drawn_below {w w' : World} (h : Drawn0 w w') (B : Nat) : Below B w w' := by
 obtain ⟨⟨n, rfl⟩⟩ := h
 exact pw_below_drewN (Below.refl _ _) n
theorem set_start {w w5 : World} (f : Nat) (At : Option Addr) (nt ct : Nat) (all s : Int) (hR : w5.heap[w.heap.size]? = some (.cells #[.slice none 0 0, .int .i64 0, .int .i64 0] 55 (0, 0))) (hB : Below w.heap.size w w5) :
  SetI w (((((w5.alloc (.cells #[.int .i64 s] 3)).alloc (.cells #[.func (.func f) #[] #[]] 118)).alloc (.cells #[.int .i64 all] 3)).alloc (.cells #[.slice none 0 0, .int .i64 0, .int .i64 0, .slice At nt ct] 120)).alloc (.cells #[.int .i64 0] 3))
   (w5.heap.size + 5) ⟨w.heap.size, w5.heap.size, w5.heap.size + 1, w5.heap.size + 2, w5.heap.size + 3, w5.heap.size + 4⟩ f At nt ct all s 0 0 [] (.slice none 0 0) := by
 have hlt := blk_lt hR
 have a1 := blk_new w5 (.cells #[.int .i64 s] 3)
 have a2 := blk_new (w5.alloc (.cells #[.int .i64 s] 3)) (.cells #[.func (.func f) #[] #[]] 118)
 have a3 := blk_new ((w5.alloc (.cells #[.int .i64 s] 3)).alloc (.cells #[.func (.func f) #[] #[]] 118)) (.cells #[.int .i64 all] 3)
 have a4 := blk_new (((w5.alloc (.cells #[.int .i64 s] 3)).alloc (.cells #[.func (.func f) #[] #[]] 118)).alloc (.cells #[.int .i64 all] 3)) (.cells #[.slice none 0 0, .int .i64 0, .int .i64 0, .slice At nt ct] 120)
 have a5 := blk_new ((((w5.alloc (.cells #[.int .i64 s] 3)).alloc (.cells #[.func (.func f) #[] #[]] 118)).alloc (.cells #[.int .i64 all] 3)).alloc (.cells #[.slice none 0 0, .int .i64 0, .int .i64 0, .slice At nt ct] 120)) (.cells #[.int .i64 0] 3)
 have hs := hB.size
 simp only [World.size_alloc] at a1 a2 a3 a4 a5
 refine ⟨blk_alloc (blk_alloc (blk_alloc (blk_alloc a1 _) _) _) _, blk_alloc (blk_alloc (blk_alloc a2 _) _) _, blk_alloc (blk_alloc a3 _) _, a5, blk_alloc a4 _, blk_alloc (blk_alloc (blk_alloc (blk_alloc (blk_alloc hR _) _) _) _) _, ⟨rfl, .inl ⟨rfl, rfl⟩⟩, by simp,
  ((((hB.alloc hs _).alloc (by simp; omega) _).alloc (by simp; omega) _).alloc (by simp; omega) _).alloc (by simp; omega) _⟩
theorem set_ok {w w5 : World} (hlt : w.heap.size < w5.heap.size) : SetG.Ok ⟨w.heap.size, w5.heap.size, w5.heap.size + 1, w5.heap.size + 2, w5.heap.size + 3, w5.heap.size + 4⟩ w.heap.size (w5.heap.size + 5) :=
 ⟨⟨Nat.le_refl _, by show _ ≤ w5.heap.size; omega, by show _ ≤ w5.heap.size + 1; omega, by show _ ≤ w5.heap.size + 2; omega, by show _ ≤ w5.heap.size + 3; omega, by show _ ≤ w5.heap.size + 4; omega⟩,
  ⟨by show w.heap.size < _; omega, by show w5.heap.size < _; omega, by show w5.heap.size + 1 < _; omega, by show w5.heap.size + 2 < _; omega, by show w5.heap.size + 3 < _; omega, by show w5.heap.size + 4 < _; omega⟩,
  ⟨by show w.heap.size ≠ w5.heap.size + 4; omega, by show w5.heap.size ≠ w5.heap.size + 4; omega, by show w5.heap.size + 1 ≠ w5.heap.size + 4; omega, by show w5.heap.size + 2 ≠ w5.heap.size + 4; omega, by show w5.heap.size + 3 ≠ w5.heap.size + 4; omega⟩,
  ⟨by show w.heap.size ≠ w5.heap.size + 3; omega, by show w5.heap.size ≠ w5.heap.size + 3; omega, by show w5.heap.size + 1 ≠ w5.heap.size + 3; omega, by show w5.heap.size + 2 ≠ w5.heap.size + 3; omega⟩⟩
def tellP (s0 : Int) : S43 → Int := if s0 < 0 then shrinkT else growT
def allP (s0 y z : Int) : Int := if s0 < 0 then z else y
def slackP (ends : Bool) (nn wd s0 : Int) : Int := if ends = true ∧ nn ≤ wd then 0 else s0
def setQ (toks : List S101) (l dl : List S43) (wd : Int) (ends : Bool) (y z nn s0 : Int) (n k : Nat) : S55 :=
 ⟨(lineD toks (lineL toks (tellP s0) (slackP ends nn wd s0) (allP s0 y z) l n).2 dl k).2, (lineD toks (lineL toks (tellP s0) (slackP ends nn wd s0) (allP s0 y z) l n).2 dl k).1,
  bits .or .i64 (bits .or .i64 (bitP (decide (wd < wrap64 (nn - z))) 0) (bitP (!ends && decide (wrap64 (nn + y) < wd)) 1)) (bitP (decide (0 < k)) 2)⟩
def setP (toks : List S101) (l : List S43) (wd : Int) (ends : Bool) (dl : List S43) : S55 :=
 setQ toks l dl wd ends (sumT growT l l.length) (sumT shrinkT l l.length) (dashN (sumT wideT l l.length) dl dl.length)
  (mn (mx (wrap64 (wd - dashN (sumT wideT l l.length) dl dl.length)) (wrap64 (-sumT shrinkT l l.length))) (sumT growT l l.length)) l.length dl.length
set_option maxRecDepth 100000 in
set_option maxHeartbeats 4000000 in
theorem set_calls (At : Option Addr) (ct : Nat) (toks : List S101) (A : Option Addr) (c : Nat) (l : List S43) (wd : Int) (ends : Bool) (Ad : Option Addr) (cd : Nat) (dl : List S43) (w : World)
  (hct : toks.length ≤ ct) (hT : Kd.C k101 w At toks.length toks) (hA : Kd.C k43 w A l.length l) (hD : Kd.C k43 w Ad dl.length dl) (hl : l.length ≤ 1000) (hdl : dl.length ≤ 1000)
  (hk : ∀ x ∈ l, x.f0 = 1 ∨ x.f0 = 2 ∨ x.f0 = 3 ∨ x.f0 = 4) (hkd : ∀ x ∈ dl, x.f0 = 1 ∨ x.f0 = 2 ∨ x.f0 = 3 ∨ x.f0 = 4) :
  Calls Try.prog 63 #[.slice At toks.length ct, .slice A l.length c, .int .i64 wd, .bool ends, .slice Ad dl.length cd] w fun e w' => ∃ v, e = .returned (.agg #[v, .int .i64 (setP toks l wd ends dl).f1, .int .i64 (setP toks l wd ends dl).f2]) ∧ w'.ownsRow w.heap.size 57 4 v (setP toks l wd ends dl).f0.length (flat57 (setP toks l wd ends dl).f0) ∧ Below w.heap.size w w' := by
 obtain ⟨R, hR⟩ : ∃ R, setP toks l wd ends dl = R := ⟨_, rfl⟩
 rw [hR]
 unfold setP at hR
 have HTK := Lib.hid hT
 have HA := Lib.hid hA
 have HD := Lib.hid hD
 clear hT hA hD
 obtain ⟨n, hn⟩ : ∃ n, l.length = n := ⟨_, rfl⟩
 obtain ⟨m, hm⟩ : ∃ m, dl.length = m := ⟨_, rfl⟩
 obtain ⟨nt, hnt⟩ : ∃ m, toks.length = m := ⟨_, rfl⟩
 have HN := Lib.hid hn
 have HM := Lib.hid hm
 have HNT := Lib.hid hnt
 rw [hm, hn] at hR
 rw [hnt, hm, hn]
 have hm1 : m ≤ 1000 := by omega
 have hn1 : n ≤ 1000 := by omega
 have hcA : ∀ W, Below w.heap.size w W → Calls Try.prog 80 #[.slice A n c, .func (.func 81) #[] #[]] W (fun e w' => e = .returned (.int .i64 (sumT wideT l n)) ∧ Below W.heap.size W w') ∧
   Calls Try.prog 80 #[.slice A n c, .func (.func 82) #[] #[]] W (fun e w' => e = .returned (.int .i64 (sumT growT l n)) ∧ Below W.heap.size W w') ∧
   Calls Try.prog 80 #[.slice A n c, .func (.func 83) #[] #[]] W (fun e w' => e = .returned (.int .i64 (sumT shrinkT l n)) ∧ Below W.heap.size W w') := fun W hW => by
  rw [← hn]
  exact ⟨sum_calls 81 wideT wide_tells A c l W (by omega) (Kd.C_below HA.out hW), sum_calls 82 growT grow_tells A c l W (by omega) (Kd.C_below HA.out hW), sum_calls 83 shrinkT shrink_tells A c l W (by omega) (Kd.C_below HA.out hW)⟩
 have HS := Lib.hid hcA
 clear hcA hn hm hnt
 generalize hn0 : sumT wideT l n = n0 at *
 generalize hy : sumT growT l n = y at *
 generalize hz : sumT shrinkT l n = z at *
 have HRP := Lib.hid hR
 clear hR
 have hr0 := blk_new w (.cells #[.slice none 0 0, .int .i64 0, .int .i64 0] 55)
 have hb0 := (Below.refl w.heap.size w).alloc (Nat.le_refl _) (.cells #[.slice none 0 0, .int .i64 0, .int .i64 0] 55)
 obtain ⟨w1, hw1⟩ : ∃ w1, w.alloc (.cells #[.slice none 0 0, .int .i64 0, .int .i64 0] 55) = w1 := ⟨_, rfl⟩
 rw [hw1] at hr0 hb0
 have HR0 := Lib.hid hr0
 have HB0 := Lib.hid hb0
 clear hr0 hb0
 go_enter Try.func63, Try.ntmps63
 go_wp2_with fail
 refine (HS.out _ HB0.out).1.mono ?_
 rintro _ w2 ⟨rfl, hb2⟩
 have hr2 := blk_below HR0.out hb2
 replace hb2 := HB0.out.trans (hb2.mono HB0.out.size)
 have HR2 := Lib.hid hr2
 have HB2 := Lib.hid hb2
 clear hr2 hb2 hw1
 go_wp2_with fail
 go_loopw [11, 30] (fun v11 v30 wr => ∃ (k : Nat), v30 = .int .i64 k ∧ k ≤ m ∧ v11 = .int .i64 (dashN n0 dl k) ∧ wr.heap[w.heap.size]? = some (.cells #[.slice none 0 0, .int .i64 0, .int .i64 0] 55 (0, 0)) ∧ Below w.heap.size w wr) (fun _ v _ => m - (intOf v).toNat)
 case atStart => exact ⟨0, rfl, Nat.zero_le _, rfl, HR2.out, HB2.out⟩
 case round =>
  obtain ⟨k, rfl, hkm, rfl, hR, hB⟩ := hrel
  by_cases hlt : k < m
  ·have hlt1 : (k : Int) < (m : Int) := by omega
   obtain ⟨ad, e1, q0, q1, q2, q3, q4⟩ := at_T43 (Kd.C_below HD.out hB) k (by omega) (by have := HM.out; omega)
   cases e1
   have hnx : Hid (dashN n0 dl (k + 1) = wrap64 (dashN n0 dl k + (rd_T43 dl k).f1)) := take_next _ _ _ _ _ (rd43_get dl k (by have := HM.out; omega))
   generalize rd_T43 dl k = x at *
   obtain ⟨f0, f1, f2, f3, f4⟩ := x
   simp only [Int.toNat_natCast] at q0 q1 q2 q3 q4
   have HRr := Lib.hid hR
   clear hR
   go_wp2_with fail
   go_roundw
   case rel => exact ⟨k + 1, by go_num, by omega, by rw [hnx.out], blk_alloc HRr.out _, hB.alloc hB.size _⟩
   case measure => simp [intOf]; omega
  ·obtain rfl : k = m := by omega
   have hlt1 : ¬ (k : Int) < (k : Int) := by omega
   have HR3 := Lib.hid hR
   have HB3 := Lib.hid hB
   clear hR hB
   generalize hnn : dashN n0 dl k = nn at *
   go_wp2_with fail
   refine (HS.out _ HB3.out).2.1.mono ?_
   rintro _ w4 ⟨rfl, hb4⟩
   have hr4 := blk_below HR3.out hb4
   replace hb4 := HB3.out.trans (hb4.mono HB3.out.size)
   have HR4 := Lib.hid hr4
   have HB4 := Lib.hid hb4
   clear hr4 hb4
   go_wp2_with fail
   refine (HS.out _ HB4.out).2.2.mono ?_
   rintro _ w5 ⟨rfl, hb5⟩
   have hr5 := blk_below HR4.out hb5
   replace hb5 := HB4.out.trans (hb5.mono HB4.out.size)
   have HR5 := Lib.hid hr5
   have HB5 := Lib.hid hb5
   clear hr5 hb5
   obtain ⟨s0, hs0⟩ : ∃ s0, mn (mx (wrap64 (wd - nn)) (wrap64 (-z))) y = s0 := ⟨_, rfl⟩
   have hq := HRP.out
   rw [hs0] at hq
   have HRQ := Lib.hid hq
   clear hq HRP
   by_cases hs : s0 < 0 <;> (rcases Bool.eq_false_or_eq_true ends with he | he) <;> (by_cases hle : nn ≤ wd)
   all_goals
    have HS0 := Lib.hid hs
    have HLE := Lib.hid hle
    have HEN := Lib.hid he
    go_wp2_with fail
   all_goals
    generalize hW : World.alloc _ _ = W
    obtain ⟨f, HT, I0⟩ : ∃ f, Tells f (tellP s0) ∧ SetI w W (w5.heap.size + 5) ⟨w.heap.size, w5.heap.size, w5.heap.size + 1, w5.heap.size + 1 + 1, w5.heap.size + 1 + 1 + 1, w5.heap.size + 1 + 1 + 1 + 1⟩ f At nt ct (allP s0 y z) (slackP ends nn wd s0) 0 0 [] (.slice none 0 0) := by
     have hs1 := HS0.out
     have hl1 := HLE.out
     have he1 := HEN.out
     rw [← hW]
     unfold tellP allP slackP
     first
     | rw [if_pos (⟨he1, by omega⟩ : ends = true ∧ nn ≤ wd)]
     | rw [if_neg (fun h : ends = true ∧ nn ≤ wd => by have := h.2; omega)]
     | rw [if_neg (fun h : ends = true ∧ nn ≤ wd => by have := h.1; rw [he1] at this; cases this)]
     first
     | (rw [if_pos (by omega : s0 < 0), if_pos (by omega : s0 < 0)]; exact ⟨83, shrink_tells, set_start _ _ _ _ _ _ HR5.out HB5.out⟩)
     | (rw [if_neg (by omega : ¬ s0 < 0), if_neg (by omega : ¬ s0 < 0)]; exact ⟨82, grow_tells, set_start _ _ _ _ _ _ HR5.out HB5.out⟩)
   all_goals
    have hG : SetG.Ok ⟨w.heap.size, w5.heap.size, w5.heap.size + 1, w5.heap.size + 1 + 1, w5.heap.size + 1 + 1 + 1, w5.heap.size + 1 + 1 + 1 + 1⟩ w.heap.size (w5.heap.size + 5) := set_ok (blk_lt HR5.out)
    clear hW HR5 HB5 HR3 HB3 HR2 HB2 HR0 HB0 HR4 HB4
    have HI0 := Lib.hid I0
    have HT1 := Lib.hid HT
    have HG := Lib.hid hG
    clear I0 HT hG
    obtain rfl := HNT.out
    generalize w5.heap.size + 5 = B at *
    generalize w5.heap.size + 1 + 1 + 1 + 1 = gh at *
    generalize w5.heap.size + 1 + 1 + 1 = gx at *
    generalize w5.heap.size + 1 + 1 = ga at *
    generalize w5.heap.size + 1 = gt at *
    generalize w5.heap.size = gs at *
    obtain ⟨T, hTT⟩ : ∃ T, tellP s0 = T := ⟨_, rfl⟩
    obtain ⟨al, hal⟩ : ∃ al, allP s0 y z = al := ⟨_, rfl⟩
    obtain ⟨sl, hsl⟩ : ∃ sl, slackP ends nn wd s0 = sl := ⟨_, rfl⟩
    have hi0 := HI0.out
    have ht1 := HT1.out
    rw [hal, hsl] at hi0
    rw [hTT] at ht1
    have hq := HRQ.out
    unfold setQ at hq
    rw [hTT, hal, hsl, he] at hq
    clear HI0 HT1 HRQ
    have HI0 := Lib.hid hi0
    have HT1 := Lib.hid ht1
    have HTA := Lib.hid hq
    clear hi0 ht1 hq hTT hal hsl
    go_loopw [66] (fun v66 wr => ∃ (k : Nat) (v : Value), v66 = .int .i64 k ∧ k ≤ n ∧ SetI w wr B ⟨w.heap.size, gs, gt, ga, gx, gh⟩ f At toks.length ct al sl (lineL toks T sl al l k).1 (lineL toks T sl al l k).2.1 (lineL toks T sl al l k).2.2 v) (fun v _ => n - (intOf v).toNat)
    case atStart => exact ⟨0, _, rfl, Nat.zero_le _, HI0.out⟩
    case round =>
     obtain ⟨j, v, rfl, hj, hI⟩ := hrel
     by_cases hlt : j < n
     ·have hlt1 : (j : Int) < (n : Int) := by omega
      obtain ⟨ad, e1, q0, q1, q2, q3, q4⟩ := at_T43 (Kd.C_below HA.out hI.hB) j (by omega) (by have := HN.out; omega)
      cases e1
      have hnx : Hid (lineL toks T sl al l (j + 1) = stepL toks T sl al (lineL toks T sl al l j) (rd_T43 l j)) := take_next _ _ _ _ _ (rd43_get l j (by have := HN.out; omega))
      have hkx := hk (rd_T43 l j) (List.mem_of_getElem? (rd43_get l j (by have := HN.out; omega)))
      have hln := line_len toks T sl al l j
      generalize rd_T43 l j = x at *
      generalize lineL toks T sl al l j = st at *
      obtain ⟨f0, f1, f2, f3, f4⟩ := x
      simp only [Int.toNat_natCast] at q0 q1 q2 q3 q4
      have HI := Lib.hid hI
      have HK := Lib.hid hkx
      clear hI hkx
      by_cases h3 : f0 = 3
      ·subst h3
       go_wp2_with fail
       refine ⟨⟨j + 1, v, by simp, by omega, ?_⟩, by simp [intOf]; omega⟩
       rw [hnx.out, stepL, if_pos rfl]
       exact HI.out.below ((Below.refl _ _).alloc (Nat.le_refl _) _)
      ·have h3b : (f0 == 3) = false := beq_eq_false_iff_ne.2 h3
       have hbox := blk_new wr (.cells #[.int .i64 f0, .int .i64 f1, .int .i64 f2, .int .i64 f3, .int .i64 f4] 43)
       have hIb := HI.out.below ((Below.refl _ _).alloc (Nat.le_refl _) (.cells #[.int .i64 f0, .int .i64 f1, .int .i64 f2, .int .i64 f3, .int .i64 f4] 43))
       have hgb : wr.heap.size ≠ gh := by
        have h1 := HG.out.hi.2.2.2.2.2
        have h2 := HI.out.le
        simp only at h1
        omega
       have HBX := Lib.hid hbox
       have HIB := Lib.hid hIb
       have HGB := Lib.hid hgb
       have H3 := Lib.hid h3
       clear hbox hIb hgb
       go_wp2_with fail
       refine Go.Mix.region_mix' (fun b W => SetI w W B ⟨w.heap.size, gs, gt, ga, gx, gh⟩ f At toks.length ct al sl (bif b then aheadP al st.1 (T ⟨f0, f1, f2, f3, f4⟩) else st.1) st.2.1 st.2.2 v ∧ W.heap[wr.heap.size]? = some (.cells #[.int .i64 f0, .int .i64 f1, .int .i64 f2, .int .i64 f3, .int .i64 f4] 43 (0, 0))) 5 7 [] (by kernel_rfl) (by kernel_rfl) (fun _ _ _ _ _ h => h) ⟨HIB.out.below (below_drew1 (Below.refl _ _)), HBX.out⟩ ?_
       refine Go.Mix.seqE_nil ?_
       repeat
        apply Go.Mix.seqM_cons (by rfl) (by rfl)
        focus
         intro b W hS
         have x0 := blk_cell hS.2 0
         have x1 := blk_cell hS.2 1
         have x2 := blk_cell hS.2 2
         have x3 := blk_cell hS.2 3
         have x4 := blk_cell hS.2 4
         simp only [List.getElem?_toArray, List.getElem?_cons_succ, List.getElem?_cons_zero] at x0 x1 x2 x3 x4
         have HS9 := Lib.hid hS
         clear hS
         go_wp2
         exact Go.Det.AtEnd.mk HS9.out
       apply Go.Mix.seqM_main (by rfl)
       focus
        intro W hS
        have HS9 := Lib.hid hS
        clear hS
        go_wp2_with fail
        refine (set_share HT1.out HG.out HS9.out.1 ⟨f0, f1, f2, f3, f4⟩).mono ?_
        rintro _ W2 ⟨rfl, hI2, hkeep⟩
        have HE9 := Lib.hid (And.intro hI2 (hkeep _ _ HGB.out HS9.out.2))
        clear hI2 hkeep
        go_wp2
        exact Go.Det.AtEnd.mk HE9.out
       repeat
        apply Go.Mix.seqM_cons (by rfl) (by rfl)
        focus
         intro b W hS
         have HS9 := Lib.hid hS
         clear hS
         go_wp2
         exact Go.Det.AtEnd.mk HS9.out
       refine Go.Mix.seqM_nil ?_
       intro W hS
       have HS9 := Lib.hid hS
       clear hS
       simp only [List.drop_succ_cons, List.drop_zero]
       go_wp2_with fail
       refine (set_show HG.out hct HTK.out HS9.out.1 (by omega) ⟨f0, f1, f2, f3, f4⟩ _ HK.out).mono ?_
       rintro _ W2 ⟨rfl, v', hI2⟩
       have HE9 := Lib.hid hI2
       clear hI2
       go_wp2
       refine ⟨⟨j + 1, v', by simp, by omega, ?_⟩, by simp [intOf]; omega⟩
       rw [hnx.out, stepL, if_neg H3.out]
       exact HE9.out
     ·obtain rfl : j = n := by omega
      have hlt1 : ¬ (j : Int) < (j : Int) := by omega
      have hln := line_len toks T sl al l j
      obtain ⟨st, hst⟩ : ∃ st, lineL toks T sl al l j = st := ⟨_, rfl⟩
      rw [hst] at hI hln
      obtain ⟨ah, wt, sp⟩ := st
      simp only at hln
      have HI := Lib.hid hI
      have HST := Lib.hid hst
      clear hI hst
      go_wp2_with fail
      go_loopw [84] (fun v84 wr => ∃ (i : Nat) (v : Value), v84 = .int .i64 i ∧ i ≤ k ∧ SetI w wr B ⟨w.heap.size, gs, gt, ga, gx, gh⟩ f At toks.length ct al sl ah (lineD toks (wt, sp) dl i).1 (lineD toks (wt, sp) dl i).2 v) (fun v _ => k - (intOf v).toNat)
      case atStart => exact ⟨0, v, rfl, Nat.zero_le _, HI.out⟩
      case round =>
       obtain ⟨i, v, rfl, hi, hI⟩ := hrel
       by_cases hlt : i < k
       ·have hlt2 : (i : Int) < (k : Int) := by omega
        obtain ⟨ad, e1, q0, q1, q2, q3, q4⟩ := at_T43 (Kd.C_below HD.out hI.hB) i (by omega) (by have := HM.out; omega)
        cases e1
        have hnx : Hid (lineD toks (wt, sp) dl (i + 1) = stepD toks (lineD toks (wt, sp) dl i) (rd_T43 dl i)) := take_next _ _ _ _ _ (rd43_get dl i (by have := HM.out; omega))
        have hkx := hkd (rd_T43 dl i) (List.mem_of_getElem? (rd43_get dl i (by have := HM.out; omega)))
        have hld := lineD_len toks (wt, sp) dl i
        generalize rd_T43 dl i = x at *
        generalize lineD toks (wt, sp) dl i = st at *
        obtain ⟨f0, f1, f2, f3, f4⟩ := x
        simp only [Int.toNat_natCast] at q0 q1 q2 q3 q4 hln hld
        have HIb := Lib.hid (hI.below ((Below.refl _ _).alloc (Nat.le_refl _) (.cells #[.int .i64 f0, .int .i64 f1, .int .i64 f2, .int .i64 f3, .int .i64 f4] 43)))
        have HK := Lib.hid hkx
        clear hI hkx
        go_wp2_with fail
        refine (set_show HG.out hct HTK.out HIb.out (by omega) ⟨f0, f1, f2, f3, f4⟩ _ HK.out).mono ?_
        rintro _ W2 ⟨rfl, v', hI2⟩
        have HE9 := Lib.hid hI2
        clear hI2
        go_wp2
        refine ⟨⟨i + 1, v', by simp, by omega, ?_⟩, by simp [intOf]; omega⟩
        rw [hnx.out, stepD]
        exact HE9.out
       ·obtain rfl : i = k := by omega
        have hlt2 : ¬ (i : Int) < (i : Int) := by omega
        have HI9 := Lib.hid hI
        clear hI
        go_wp2_with fail
        refine (lines_bit.calls _ 0 _ _ (bit_ev _ 0 (by decide))).mono ?_
        rintro _ wb1 ⟨rfl, hd1⟩
        have HJ1 := Lib.hid (HI9.out.below (drawn_below hd1 _))
        clear hd1
        go_wp2_with fail
        refine (lines_bit.calls _ 1 _ _ (bit_ev _ 1 (by decide))).mono ?_
        rintro _ wb2 ⟨rfl, hd2⟩
        have HJ2 := Lib.hid (HJ1.out.below (drawn_below hd2 _))
        clear hd2
        go_wp2_with fail
        refine (lines_bit.calls _ 2 _ _ (bit_ev _ 2 (by decide))).mono ?_
        rintro _ wb3 ⟨rfl, hd3⟩
        have HJ3 := Lib.hid (HJ2.out.below (drawn_below hd3 _))
        clear hd3
        obtain ⟨A', c', rfl⟩ := own_slice HJ3.out.own
        have hne := HG.out.nx.1
        simp only at hne
        have y0 := blk_cell HJ3.out.hX 0
        have y1 := blk_cell HJ3.out.hX 1
        have y2 := blk_cell HJ3.out.hX 2
        have y3 := blk_frozen HJ3.out.hX 2
        simp only [List.getElem?_toArray, List.getElem?_cons_succ, List.getElem?_cons_zero] at y0 y1 y2
        have hkeep : ∀ b : Int, (wb3.setCell ⟨gx, 2, none⟩ (.int .i64 b)).heap[w.heap.size]? = some (.cells #[.slice none 0 0, .int .i64 0, .int .i64 0] 55 (0, 0)) := fun b => blk_far HJ3.out.hR (p := ⟨gx, 2, none⟩) hne _
        have r0 := fun b => blk_cell (hkeep b) 0
        have r1 := fun b => blk_cell (hkeep b) 1
        have r2 := fun b => blk_cell (hkeep b) 2
        have s0 := fun b => blk_frozen (hkeep b) 0
        have s1 := fun b => blk_frozen (hkeep b) 1
        have s2 := fun b => blk_frozen (hkeep b) 2
        have HKE := Lib.hid hkeep
        clear hkeep
        simp only [List.getElem?_toArray, List.getElem?_cons_succ, List.getElem?_cons_zero] at r0 r1 r2
        go_wp2_with fail
        have hRR := HTA.out
        rw [HST.out] at hRR
        simp only [Bool.not_true, Bool.false_and, Bool.not_false, Bool.true_and] at hRR
        have hb0 := congrArg S55.f0 hRR
        have hb1 := congrArg S55.f1 hRR
        have hb2 := congrArg S55.f2 hRR
        simp only at hb0 hb1 hb2
        rw [hb2]
        rw [← hb1, ← hb0]
        clear hRR hb0 hb1 hb2
        generalize R.f2 = b at *
        have n1 := own_apart HJ3.out.own HJ3.out.hX (by decide)
        have n2 := own_apart HJ3.out.own HJ3.out.hR (by decide)
        have hr3 := blk_set (blk_set (blk_set (HKE.out b) 0 (.slice A' (lineD toks (wt, sp) dl i).2.length c')) 1 (.int .i64 (lineD toks (wt, sp) dl i).1)) 2 (.int .i64 b)
        have ho3 := own_setCell (own_setCell (own_setCell (own_setCell HJ3.out.own (p := ⟨gx, 2, none⟩) n1 (.int .i64 b)) (p := ⟨w.heap.size, 0, none⟩) n2 (.slice A' (lineD toks (wt, sp) dl i).2.length c')) (p := ⟨w.heap.size, 1, none⟩) n2 (.int .i64 (lineD toks (wt, sp) dl i).1)) (p := ⟨w.heap.size, 2, none⟩) n2 (.int .i64 b)
        have hgl := HG.out.lo.2.2.2.2.1
        have hgB := HG.out.hi.1
        simp only at hgl hgB
        have hb3 := (((HJ3.out.hB.setCell (p := ⟨gx, 2, none⟩) hgl (.int .i64 b)).setCell (p := ⟨w.heap.size, 0, none⟩) (Nat.le_refl _) (.slice A' (lineD toks (wt, sp) dl i).2.length c')).setCell (p := ⟨w.heap.size, 1, none⟩) (Nat.le_refl _) (.int .i64 (lineD toks (wt, sp) dl i).1)).setCell (p := ⟨w.heap.size, 2, none⟩) (Nat.le_refl _) (.int .i64 b)
        generalize ((((wb3.setCell ⟨gx, 2, none⟩ (.int .i64 b)).setCell ⟨w.heap.size, 0, none⟩ (.slice A' (lineD toks (wt, sp) dl i).2.length c')).setCell ⟨w.heap.size, 1, none⟩ (.int .i64 (lineD toks (wt, sp) dl i).1)).setCell ⟨w.heap.size, 2, none⟩ (.int .i64 b)) = W9 at *
        have z0 := blk_cell hr3 0
        have z1 := blk_cell hr3 1
        have z2 := blk_cell hr3 2
        simp at z0 z1 z2
        refine bodyPost_ret (v := .agg #[.slice A' (lineD toks (wt, sp) dl i).2.length c', .int .i64 (lineD toks (wt, sp) dl i).1, .int .i64 b]) ?_ rfl ⟨_, rfl, own_weaken ho3 (by omega), hb3⟩
        simp [results, Try.results63, go_sem, z0, z1, z2]
end Go.Proofs.Ytbddfnmhhmkfkaa.Pr
namespace Go.Proofs.Ytbddfnmhhmkfkaa.Pr
set_option linter.unusedVariables false
set_option linter.unusedSimpArgs false
open Go.RowKit Go.Proofs.YtbddfnmhhmkfkaaW.PrintWords
attribute [local go_sem] Oper.semAt_some
def oddT (toks : List S101) (x : S43) : Bool := !(showP toks x).2
theorem oddT_calls (At : Option Addr) (ct : Nat) (toks : List S101) (x : S43) (g : Nat) (w : World) (hct : toks.length ≤ ct) (hT : Kd.C k101 w At toks.length toks) (hg : w.heap[g]? = some (.cells #[.slice At toks.length ct] 44 (0, 0))) :
  Calls Try.prog 61 #[.agg #[.int .i64 x.f0, .int .i64 x.f1, .int .i64 x.f2, .int .i64 x.f3, .int .i64 x.f4], .pointer (some ⟨g, 0, none⟩)] w fun e w' => e = .returned (.bool (oddT toks x)) ∧ Below w.heap.size w w' := by
 unfold oddT
 obtain ⟨⟨c, b⟩, hcb⟩ : ∃ p, showP toks x = p := ⟨_, rfl⟩
 have hev := shows_ev toks x
 rw [hcb] at hev ⊢
 have hsh := fun W hW => lines_shows.calls 1 At ct toks x.f0 x.f1 x.f2 x.f3 x.f4 c b W (Kd.C_below hT hW) hct hev
 have HSH := Lib.hid hsh
 clear hsh hev hcb hT
 obtain ⟨f0, f1, f2, f3, f4⟩ := x
 have hx := blk_new w (.cells #[.int .i64 f0, .int .i64 f1, .int .i64 f2, .int .i64 f3, .int .i64 f4] 43)
 have hg1 := blk_alloc hg (.cells #[.int .i64 f0, .int .i64 f1, .int .i64 f2, .int .i64 f3, .int .i64 f4] 43)
 have c0 := blk_cell hg1 0
 simp only [List.getElem?_toArray, List.getElem?_cons_zero] at c0
 have hB1 := Lib.hid ((Below.refl w.heap.size w).alloc (Nat.le_refl _) (.cells #[.int .i64 f0, .int .i64 f1, .int .i64 f2, .int .i64 f3, .int .i64 f4] 43))
 clear hx hg1
 go_enter Try.func61, Try.ntmps61
 go_wp2_with fail
 refine (HSH.out _ hB1.out).mono ?_
 rintro _ w2 ⟨rfl, hb⟩
 replace hb := hB1.out.trans (hb.mono hB1.out.size)
 go_wp2
 go_ret
 exact ⟨rfl, hb⟩
def idxT (toks : List S101) : List S43 → Int → Int
 | [], _ => -1
 | x :: xs, i => if oddT toks x then i else idxT toks xs (i + 1)
set_option maxHeartbeats 2000000 in
theorem indexTok_calls (B : Nat) (A : Option Addr) (c : Nat) (xs : List S43) (w : World) (hx : xs.length ≤ 140737488351232) (hA : Kd.C k43 w A xs.length xs) (At : Option Addr) (ct : Nat) (toks : List S101) (hct : toks.length ≤ ct) (hT : Kd.C k101 w At toks.length toks) (hc : w.heap[B]? = some (.cells #[.slice At toks.length ct] 44 (0, 0))) :
  Calls Try.prog 76 #[.slice A xs.length c, .func (.func 61) #[] #[.pointer (some ⟨B, 0, none⟩)]] w fun e w' => e = .returned (.int .i64 (idxT toks xs 0)) ∧ Below w.heap.size w w' := by
 have hcW : ∀ W', Below w.heap.size w W' → Kd.C k101 W' At toks.length toks ∧ W'.heap[B]? = some (.cells #[.slice At toks.length ct] 44 (0, 0)) := fun W' hb => ⟨Kd.C_below hT hb, blk_below hc hb⟩
 obtain ⟨n, hn⟩ : ∃ n, xs.length = n := ⟨_, rfl⟩
 have HA := Lib.hid hA
 have HC := Lib.hid hcW
 have hn1 : n ≤ 140737488351232 := by omega
 rw [hn]
 have HN := Lib.hid hn
 clear hn hA hcW hc hx hT
 go_enter Try.func76, Try.ntmps76
 go_wp2
 go_loopw [8] (fun v wr => ∃ (k : Nat) (rest : List S43), xs.drop k = rest ∧ Hid (idxT toks xs 0 = idxT toks rest k) ∧ v = .int .i64 k ∧ k ≤ n ∧ Below w.heap.size w wr) (fun v _ => n - (intOf v).toNat)
 case atStart => exact ⟨0, xs, rfl, Lib.hid rfl, rfl, by omega, Below.refl _ _⟩
 case round =>
  obtain ⟨k, rest, hr, H, rfl, hk, hB2⟩ := hrel
  by_cases hlt : k < n
  ·have hl2 : (k : Int) < (n : Int) := by omega
   obtain ⟨x, rest, rfl⟩ : ∃ x r, rest = x :: r := by
    cases rest with
    | nil =>
     have := congrArg List.length hr
     simp at this
     have := HN.out
     omega
    | cons x r => exact ⟨x, r, rfl⟩
   have hxk : xs[k]? = some x := by
    have := congrArg (fun l => l[0]?) hr
    simpa using this
   have hr' : xs.drop (k + 1) = rest := by
    have := congrArg List.tail hr
    simpa using this
   have HR := Lib.hid hr'
   obtain ⟨ad, e1, q0, q1, q2, q3, q4⟩ := at_T43 (Kd.C_below HA.out hB2) k (by omega) (by have := HN.out; omega)
   cases e1
   have hxx : rd_T43 xs k = x := by
    unfold rd_T43
    rw [Int.toNat_natCast, List.getD_eq_getElem?_getD, hxk]
    rfl
   rw [hxx] at q0 q1 q2 q3 q4
   simp only [Int.toNat_natCast] at q0 q1 q2 q3 q4
   have hcall := oddT_calls At ct toks x B wr hct (HC.out wr hB2).1 (HC.out wr hB2).2
   have hidx : idxT toks xs 0 = if oddT toks x then (k : Int) else idxT toks rest ((k + 1 : Nat) : Int) := by rw [H.out]; rfl
   have HCL := Lib.hid hcall
   have HI := Lib.hid hidx
   clear hr hr' hxk hcall hidx hxx H
   generalize oddT toks x = bb at *
   obtain ⟨f0, f1, f2, f3, f4⟩ := x
   go_wp2_with fail
   refine HCL.out.mono ?_
   rintro e w' ⟨rfl, hb'⟩
   clear q0 q1 q2 q3 q4 HCL
   cases bb
   ·go_wp2
    go_roundw
    case rel => exact ⟨k + 1, rest, HR.out, Lib.hid HI.out, by go_num, by omega, hB2.trans (hb'.mono hB2.size)⟩
    case measure => simp [intOf]; omega
   ·go_wp2
    go_ret
    exact ⟨by rw [HI.out]; rfl, hB2.trans (hb'.mono hB2.size)⟩
  ·have hk2 : ¬ (k : Int) < (n : Int) := by omega
   have hnil : rest = [] := by
    rw [← hr]; apply List.drop_eq_nil_of_le; have := HN.out; omega
   subst hnil
   have hi : idxT toks xs 0 = -1 := H.out
   have HI := Lib.hid hi
   clear hi hr H
   go_wp2
   go_ret
   exact ⟨by rw [HI.out]; rfl, hB2⟩
theorem idxT_lt (toks : List S101) (xs : List S43) : ∀ i : Int, 0 ≤ i → (decide (0 ≤ idxT toks xs i) = xs.any (oddT toks)) := by
 induction xs with
 | nil => intro i h; rfl
 | cons x xs ih =>
  intro i h
  by_cases hx : oddT toks x = true
  ·have e : idxT toks (x :: xs) i = i := if_pos hx
   rw [e, List.any_cons, hx]
   simp [h]
  ·have e : idxT toks (x :: xs) i = idxT toks xs (i + 1) := if_neg hx
   rw [e, ih (i + 1) (by omega), List.any_cons]
   simp only [Bool.not_eq_true] at hx
   rw [hx, Bool.false_or]
set_option maxHeartbeats 1000000 in
theorem hasTok_calls (B : Nat) (A : Option Addr) (c : Nat) (xs : List S43) (w : World) (hx : xs.length ≤ 140737488351232) (hA : Kd.C k43 w A xs.length xs) (At : Option Addr) (ct : Nat) (toks : List S101) (hct : toks.length ≤ ct) (hT : Kd.C k101 w At toks.length toks) (hc : w.heap[B]? = some (.cells #[.slice At toks.length ct] 44 (0, 0))) :
  Calls Try.prog 52 #[.slice A xs.length c, .func (.func 61) #[] #[.pointer (some ⟨B, 0, none⟩)]] w fun e w' => e = .returned (.bool (xs.any (oddT toks))) ∧ Below w.heap.size w w' := by
 have h1 := indexTok_calls B A c xs w hx hA At ct toks hct hT hc
 have h2 := idxT_lt toks xs 0 (Int.le_refl _)
 rw [← h2]
 have H1 := Lib.hid h1
 clear h1 h2 hA hc hT
 generalize idxT toks xs 0 = i at *
 go_enter Try.func52, Try.ntmps52
 go_wp2_with fail
 refine H1.out.mono ?_
 rintro e w' ⟨rfl, hb'⟩
 go_wp2
 go_ret
 exact ⟨rfl, hb'⟩
theorem flat85_at (xs : List S85) : ∀ (j : Nat) (p : S85), xs[j]? = some p → ((flat85 xs).drop (j * 3)).take 3 = [.int .i64 p.f0, .int .i64 p.f1, .int .i64 p.f2] := by
 induction xs with
 | nil => intro j p h; simp at h
 | cons x xs ih =>
  intro j p h
  cases j with
  | zero => simp at h; subst h; simp [flat85]
  | succ j =>
   have := ih j p (by simpa using h)
   rw [Nat.succ_mul]
   simp only [flat85, List.flatMap_cons] at this ⊢
   rw [show ∀ l : List Value, (([.int .i64 x.f0, .int .i64 x.f1, .int .i64 x.f2] : List Value) ++ l).drop (j * 3 + 3) = l.drop (j * 3) from fun l => rfl]
   exact this
theorem own_R85 {w : World} {base : Nat} {v : Value} {xs : List S85} (h : w.ownsRow base 85 3 v xs.length (flat85 xs)) (b' : Nat) (hb : b' ≤ base) : Kd.R k85 85 w b' (fun _ => True) v xs := by
 refine Kd.R_lower (base := base) ⟨fun _ _ => trivial, flat85 xs, h, flat85_length xs, fun j p hp => ?_⟩ hb
 have := flat85_at xs j p hp
 show k85.M _ _ _ _ (((flat85 xs).drop (j * 3)).take 3)
 rw [this]
 exact k85_mkM _ _ _ _
theorem begin_flow (A : Option Addr) (c : Nat) (l : List S43) (wd : Int) (w : World) (hl : l.length ≤ 1000000) (hA : Kd.C k43 w A l.length l) :
  Calls Try.prog 43 #[.slice A l.length c, .int .i64 wd] w fun e w' => ∃ A2 c2, e = .returned (.agg #[.slice A l.length c, .int .i64 wd, .slice A2 (sumsTo l l.length).length c2]) ∧
   Kd.C k85 w' A2 (sumsTo l l.length).length (sumsTo l l.length) ∧ (sumsTo l l.length).length ≤ c2 ∧ Below w.heap.size w w' := by
 refine (begin_calls A c l wd w hl hA).mono ?_
 rintro e w' ⟨v, rfl, ho, hb⟩
 have e1 := sums_len l l.length
 rw [← e1] at ho
 obtain ⟨A2, c2, rfl⟩ := own_slice ho
 have hr := Kd.R_reads' (own_R85 ho _ (Nat.le_refl _))
 exact ⟨A2, c2, rfl, hr.2.2, hr.2.1, hb⟩
theorem flow_cells {w : World} {g : Nat} {A : Option Addr} {n c : Nat} {wd : Int} {v : Value} (h : w.heap[g]? = some (.cells #[.slice A n c, .int .i64 wd, v] 67 (0, 0))) :
  w.cell? ⟨g, 0, none⟩ = some (.slice A n c) ∧ w.cell? ⟨g, 1, none⟩ = some (.int .i64 wd) ∧ w.cell? ⟨g, 2, none⟩ = some v :=
 ⟨by rw [blk_cell h 0]; rfl, by rw [blk_cell h 1]; rfl, by rw [blk_cell h 2]; rfl⟩
def best_Ratio.f (l0 : List S43) (a1 a2 a3 : Int) : Option (Int × Int × Int) := if l0.length ≤ 1000000 then some (ratioP l0 a1 a2 a3) else none
set_option maxRecDepth 100000 in
set_option maxHeartbeats 4000000 in
theorem best_Ratio.calls (A0 : Option Addr) (c0 : Nat) (l0 : List S43) (a1 a2 a3 r1 r2 r3 : Int) (w : World) (hr0 : Kd.C k43 w A0 l0.length l0) (hc0 : l0.length ≤ c0) (h : best_Ratio.f l0 a1 a2 a3 = some (r1, r2, r3)) :
  Calls Try.prog 19 #[.slice A0 l0.length c0, .int .i64 a1, .int .i64 a2, .int .i64 a3] w fun e w' => e = .returned (.tuple #[.int .i64 r1, .int .i64 r2, .int .i64 r3]) ∧ Below w.heap.size w w' := by
 unfold best_Ratio.f at h
 have hl : l0.length ≤ 1000000 := by
  by_cases hl : l0.length ≤ 1000000
  ·exact hl
  ·rw [if_neg hl] at h; cases h
 rw [if_pos hl] at h
 replace h := Option.some.inj h
 have hb := begin_flow A0 c0 l0 a1 w hl hr0
 have HB := Lib.hid hb
 have hck := fun W (hW : Below w.heap.size w W) => best_Check.calls A0 c0 l0 a1 _ W (Kd.C_below hr0 hW) hc0 rfl
 have HCK := Lib.hid hck
 obtain ⟨S, hS⟩ : ∃ S, sumsTo l0 l0.length = S := ⟨_, rfl⟩
 have hpl := fun a A2 c2 W (hc2 : S.length ≤ c2) (hW : Below w.heap.size w W) (hs : Kd.C k85 W A2 S.length S) => best_flow_place.calls A0 c0 l0 a1 A2 c2 S a _ W (Kd.C_below hr0 hW) hc0 hs hc2 (place_f l0 a1 S a)
 have hp2 := hpl a2
 have hp3 := hpl a3
 rw [hS] at HB
 obtain ⟨b2, e2⟩ : ∃ b, placeP l0 a2 = b := ⟨_, rfl⟩
 obtain ⟨b3, e3⟩ : ∃ b, placeP l0 a3 = b := ⟨_, rfl⟩
 rw [e2] at hp2
 rw [e3] at hp3
 have HP2 := Lib.hid hp2
 have HP3 := Lib.hid hp3
 have HR := Lib.hid hr0
 have HC0 := Lib.hid hc0
 have H := Lib.hid h
 have HS := Lib.hid hS
 have E2 := Lib.hid e2
 have E3 := Lib.hid e3
 have hnl : (l0.length : Int) ≤ 1000000 := by omega
 clear hb hr0 hc0 h hck hpl hp2 hp3 hS e2 e3
 rcases check_01 l0 a1 with hk | hk
 ·rw [hk] at HCK
  have HK := Lib.hid hk
  clear hk
  by_cases h1 : a2 = -1
  ·subst h1
   cases b3
   ·obtain ⟨rfl, rfl, rfl⟩ : r1 = 0 ∧ r2 = 0 ∧ r3 = 1 := by
     have := H.out
     unfold ratioP at this
     rw [if_neg (by rw [E3.out]; rintro ⟨_, _, h, _⟩; cases h)] at this
     simp only [Prod.mk.injEq] at this
     omega
    clear H
    go_enter Try.func19, Try.ntmps19
    go_wp2_with fail
    refine HB.out.mono ?_
    rintro _ w1 ⟨A2, c2, rfl, hs, hc2, hb1⟩
    have hB2 : Below w.heap.size w (w1.alloc (.cells #[.slice A0 l0.length c0, .int .i64 a1, .slice A2 S.length c2] 67)) := below_alloc hb1 _
    have hX2 := blk_new w1 (.cells #[.slice A0 l0.length c0, .int .i64 a1, .slice A2 S.length c2] 67)
    have hS2 := Kd.C_alloc hs (.cells #[.slice A0 l0.length c0, .int .i64 a1, .slice A2 S.length c2] 67)
    go_wp2_with fail
    refine (HCK.out _ hB2).mono ?_
    rintro _ w2 ⟨rfl, hb⟩
    replace hX2 := blk_below hX2 hb
    replace hS2 := Kd.C_below hS2 hb
    replace hB2 := below_step hB2 hb
    clear hs hb hb1
    obtain ⟨x0, x1, x2⟩ := flow_cells hX2
    have HX2 := Lib.hid hX2
    clear hX2
    go_wp2_with fail
    refine (HP3.out A2 c2 _ hc2 hB2 hS2).mono ?_
    rintro _ w3 ⟨rfl, hb⟩
    clear x0 x1 x2
    have hX2 := blk_below HX2.out hb
    replace hS2 := Kd.C_below hS2 hb
    replace hB2 := below_step hB2 hb
    clear hb HX2
    go_wp2
    go_ret3
    exact ⟨rfl, hB2⟩
   ·by_cases h2 : a3 ≤ -1
    ·obtain ⟨rfl, rfl, rfl⟩ : r1 = 0 ∧ r2 = 0 ∧ r3 = 1 := by
      have := H.out
      unfold ratioP at this
      rw [if_neg (by rintro ⟨_, _, _, h⟩; omega)] at this
      simp only [Prod.mk.injEq] at this
      omega
     clear H
     go_enter Try.func19, Try.ntmps19
     go_wp2_with fail
     refine HB.out.mono ?_
     rintro _ w1 ⟨A2, c2, rfl, hs, hc2, hb1⟩
     have hB2 : Below w.heap.size w (w1.alloc (.cells #[.slice A0 l0.length c0, .int .i64 a1, .slice A2 S.length c2] 67)) := below_alloc hb1 _
     have hX2 := blk_new w1 (.cells #[.slice A0 l0.length c0, .int .i64 a1, .slice A2 S.length c2] 67)
     have hS2 := Kd.C_alloc hs (.cells #[.slice A0 l0.length c0, .int .i64 a1, .slice A2 S.length c2] 67)
     go_wp2_with fail
     refine (HCK.out _ hB2).mono ?_
     rintro _ w2 ⟨rfl, hb⟩
     replace hX2 := blk_below hX2 hb
     replace hS2 := Kd.C_below hS2 hb
     replace hB2 := below_step hB2 hb
     clear hs hb hb1
     obtain ⟨x0, x1, x2⟩ := flow_cells hX2
     have HX2 := Lib.hid hX2
     clear hX2
     go_wp2_with fail
     refine (HP3.out A2 c2 _ hc2 hB2 hS2).mono ?_
     rintro _ w3 ⟨rfl, hb⟩
     clear x0 x1 x2
     have hX2 := blk_below HX2.out hb
     replace hS2 := Kd.C_below hS2 hb
     replace hB2 := below_step hB2 hb
     clear hb HX2
     go_wp2
     go_ret3
     exact ⟨rfl, hB2⟩
    ·have hk := HK.out
     have ok := check_ok hk
     have hp3 := place_le E3.out
     have hf1 : -1 ≤ -1 := by omega
     have HL := Lib.hid (line_spec ok hf1 (show -1 < a3 by omega) hp3.2 0)
     have hr := H.out
     unfold ratioP at hr
     rw [if_pos ⟨hk, .inl rfl, E3.out, by omega⟩] at hr
     simp only [Prod.mk.injEq] at hr
     obtain ⟨rfl, rfl, rfl⟩ := hr
     rw [HS.out] at HL
     have hf2 : -1 < a3 := by omega
     clear hk ok hp3 H hf1
     generalize lineN l0 (-1) a3 = n at *
     generalize lineY l0 (-1) a3 = y at *
     generalize lineZ l0 (-1) a3 = z at *
     generalize rateP l0 a1 (-1) a3 = r at *
     generalize overP l0 a1 (-1) a3 = o at *
     go_enter Try.func19, Try.ntmps19
     go_wp2_with fail
     refine HB.out.mono ?_
     rintro _ w1 ⟨A2, c2, rfl, hs, hc2, hb1⟩
     have hB2 : Below w.heap.size w (w1.alloc (.cells #[.slice A0 l0.length c0, .int .i64 a1, .slice A2 S.length c2] 67)) := below_alloc hb1 _
     have hX2 := blk_new w1 (.cells #[.slice A0 l0.length c0, .int .i64 a1, .slice A2 S.length c2] 67)
     have hS2 := Kd.C_alloc hs (.cells #[.slice A0 l0.length c0, .int .i64 a1, .slice A2 S.length c2] 67)
     go_wp2_with fail
     refine (HCK.out _ hB2).mono ?_
     rintro _ w2 ⟨rfl, hb⟩
     replace hX2 := blk_below hX2 hb
     replace hS2 := Kd.C_below hS2 hb
     replace hB2 := below_step hB2 hb
     clear hs hb hb1
     obtain ⟨x0, x1, x2⟩ := flow_cells hX2
     have HX2 := Lib.hid hX2
     clear hX2
     go_wp2_with fail
     refine (HP3.out A2 c2 _ hc2 hB2 hS2).mono ?_
     rintro _ w3 ⟨rfl, hb⟩
     clear x0 x1 x2
     have hX2 := blk_below HX2.out hb
     replace hS2 := Kd.C_below hS2 hb
     replace hB2 := below_step hB2 hb
     clear hb HX2
     obtain ⟨x0, x1, x2⟩ := flow_cells hX2
     have HX2 := Lib.hid hX2
     clear hX2
     go_wp2_with fail
     refine (bfl.calls 2 A0 c0 l0 a1 A2 c2 S (-1) a3 _ _ _ _ _ _ (Kd.C_below HR.out hB2) HC0.out hS2 hc2 HL.out).mono ?_
     rintro _ w3 ⟨rfl, hb⟩
     clear x0 x1 x2
     replace hB2 := below_step hB2 hb
     have hb4 := below_alloc hB2 (.cells #[.int .i64 n, .int .i64 y, .int .i64 z, .int .i64 r, .bool o] 87)
     go_wp2
     go_quiet (fail)
     go_wp2
     go_ret3
     refine ⟨?_, by apply pw_below_drewN; exact hb4⟩
     first | rfl | (simp; done)
  ·have g1 : (a2 == -1) = false := beq_eq_false_iff_ne.2 h1
   have g2 : (a2 != -1) = true := bne_iff_ne.2 h1
   by_cases h3 : a2 = l0.length
   ·obtain ⟨rfl, rfl, rfl⟩ : r1 = 0 ∧ r2 = 0 ∧ r3 = 1 := by
     have := H.out
     unfold ratioP at this
     rw [if_neg (by rintro ⟨_, h | h, _⟩; exact h1 h; exact h.1 h3)] at this
     simp only [Prod.mk.injEq] at this
     omega
    clear H
    have g3 : (a2 == (l0.length : Int)) = true := beq_iff_eq.2 h3
    clear h1 h3
    go_enter Try.func19, Try.ntmps19
    go_wp2_with fail
    refine HB.out.mono ?_
    rintro _ w1 ⟨A2, c2, rfl, hs, hc2, hb1⟩
    have hB2 : Below w.heap.size w (w1.alloc (.cells #[.slice A0 l0.length c0, .int .i64 a1, .slice A2 S.length c2] 67)) := below_alloc hb1 _
    have hX2 := blk_new w1 (.cells #[.slice A0 l0.length c0, .int .i64 a1, .slice A2 S.length c2] 67)
    have hS2 := Kd.C_alloc hs (.cells #[.slice A0 l0.length c0, .int .i64 a1, .slice A2 S.length c2] 67)
    go_wp2_with fail
    refine (HCK.out _ hB2).mono ?_
    rintro _ w2 ⟨rfl, hb⟩
    replace hX2 := blk_below hX2 hb
    replace hS2 := Kd.C_below hS2 hb
    replace hB2 := below_step hB2 hb
    clear hs hb hb1
    go_wp2
    go_ret3
    exact ⟨rfl, hB2⟩
   ·have g3 : (a2 == (l0.length : Int)) = false := beq_eq_false_iff_ne.2 h3
    cases b2
    ·obtain ⟨rfl, rfl, rfl⟩ : r1 = 0 ∧ r2 = 0 ∧ r3 = 1 := by
      have := H.out
      unfold ratioP at this
      rw [if_neg (by rw [E2.out]; rintro ⟨_, h | h, _⟩; exact h1 h; cases h.2)] at this
      simp only [Prod.mk.injEq] at this
      omega
     clear H h1 h3
     go_enter Try.func19, Try.ntmps19
     go_wp2_with fail
     refine HB.out.mono ?_
     rintro _ w1 ⟨A2, c2, rfl, hs, hc2, hb1⟩
     have hB2 : Below w.heap.size w (w1.alloc (.cells #[.slice A0 l0.length c0, .int .i64 a1, .slice A2 S.length c2] 67)) := below_alloc hb1 _
     have hX2 := blk_new w1 (.cells #[.slice A0 l0.length c0, .int .i64 a1, .slice A2 S.length c2] 67)
     have hS2 := Kd.C_alloc hs (.cells #[.slice A0 l0.length c0, .int .i64 a1, .slice A2 S.length c2] 67)
     go_wp2_with fail
     refine (HCK.out _ hB2).mono ?_
     rintro _ w2 ⟨rfl, hb⟩
     replace hX2 := blk_below hX2 hb
     replace hS2 := Kd.C_below hS2 hb
     replace hB2 := below_step hB2 hb
     clear hs hb hb1
     obtain ⟨x0, x1, x2⟩ := flow_cells hX2
     have HX2 := Lib.hid hX2
     clear hX2
     go_wp2_with fail
     refine (HP2.out A2 c2 _ hc2 hB2 hS2).mono ?_
     rintro _ w3 ⟨rfl, hb⟩
     clear x0 x1 x2
     have hX2 := blk_below HX2.out hb
     replace hS2 := Kd.C_below hS2 hb
     replace hB2 := below_step hB2 hb
     clear hb HX2
     go_wp2
     go_ret3
     exact ⟨rfl, hB2⟩
    ·cases b3
     ·obtain ⟨rfl, rfl, rfl⟩ : r1 = 0 ∧ r2 = 0 ∧ r3 = 1 := by
       have := H.out
       unfold ratioP at this
       rw [if_neg (by rw [E3.out]; rintro ⟨_, _, h, _⟩; cases h)] at this
       simp only [Prod.mk.injEq] at this
       omega
      clear H h1 h3
      go_enter Try.func19, Try.ntmps19
      go_wp2_with fail
      refine HB.out.mono ?_
      rintro _ w1 ⟨A2, c2, rfl, hs, hc2, hb1⟩
      have hB2 : Below w.heap.size w (w1.alloc (.cells #[.slice A0 l0.length c0, .int .i64 a1, .slice A2 S.length c2] 67)) := below_alloc hb1 _
      have hX2 := blk_new w1 (.cells #[.slice A0 l0.length c0, .int .i64 a1, .slice A2 S.length c2] 67)
      have hS2 := Kd.C_alloc hs (.cells #[.slice A0 l0.length c0, .int .i64 a1, .slice A2 S.length c2] 67)
      go_wp2_with fail
      refine (HCK.out _ hB2).mono ?_
      rintro _ w2 ⟨rfl, hb⟩
      replace hX2 := blk_below hX2 hb
      replace hS2 := Kd.C_below hS2 hb
      replace hB2 := below_step hB2 hb
      clear hs hb hb1
      obtain ⟨x0, x1, x2⟩ := flow_cells hX2
      have HX2 := Lib.hid hX2
      clear hX2
      go_wp2_with fail
      refine (HP2.out A2 c2 _ hc2 hB2 hS2).mono ?_
      rintro _ w3 ⟨rfl, hb⟩
      clear x0 x1 x2
      have hX2 := blk_below HX2.out hb
      replace hS2 := Kd.C_below hS2 hb
      replace hB2 := below_step hB2 hb
      clear hb HX2
      obtain ⟨x0, x1, x2⟩ := flow_cells hX2
      have HX2 := Lib.hid hX2
      clear hX2
      go_wp2_with fail
      refine (HP3.out A2 c2 _ hc2 hB2 hS2).mono ?_
      rintro _ w3 ⟨rfl, hb⟩
      clear x0 x1 x2
      have hX2 := blk_below HX2.out hb
      replace hS2 := Kd.C_below hS2 hb
      replace hB2 := below_step hB2 hb
      clear hb HX2
      go_wp2
      go_ret3
      exact ⟨rfl, hB2⟩
     ·by_cases h2 : a3 ≤ a2
      ·obtain ⟨rfl, rfl, rfl⟩ : r1 = 0 ∧ r2 = 0 ∧ r3 = 1 := by
        have := H.out
        unfold ratioP at this
        rw [if_neg (by rintro ⟨_, _, _, h⟩; omega)] at this
        simp only [Prod.mk.injEq] at this
        omega
       clear H h1 h3
       go_enter Try.func19, Try.ntmps19
       go_wp2_with fail
       refine HB.out.mono ?_
       rintro _ w1 ⟨A2, c2, rfl, hs, hc2, hb1⟩
       have hB2 : Below w.heap.size w (w1.alloc (.cells #[.slice A0 l0.length c0, .int .i64 a1, .slice A2 S.length c2] 67)) := below_alloc hb1 _
       have hX2 := blk_new w1 (.cells #[.slice A0 l0.length c0, .int .i64 a1, .slice A2 S.length c2] 67)
       have hS2 := Kd.C_alloc hs (.cells #[.slice A0 l0.length c0, .int .i64 a1, .slice A2 S.length c2] 67)
       go_wp2_with fail
       refine (HCK.out _ hB2).mono ?_
       rintro _ w2 ⟨rfl, hb⟩
       replace hX2 := blk_below hX2 hb
       replace hS2 := Kd.C_below hS2 hb
       replace hB2 := below_step hB2 hb
       clear hs hb hb1
       obtain ⟨x0, x1, x2⟩ := flow_cells hX2
       have HX2 := Lib.hid hX2
       clear hX2
       go_wp2_with fail
       refine (HP2.out A2 c2 _ hc2 hB2 hS2).mono ?_
       rintro _ w3 ⟨rfl, hb⟩
       clear x0 x1 x2
       have hX2 := blk_below HX2.out hb
       replace hS2 := Kd.C_below hS2 hb
       replace hB2 := below_step hB2 hb
       clear hb HX2
       obtain ⟨x0, x1, x2⟩ := flow_cells hX2
       have HX2 := Lib.hid hX2
       clear hX2
       go_wp2_with fail
       refine (HP3.out A2 c2 _ hc2 hB2 hS2).mono ?_
       rintro _ w3 ⟨rfl, hb⟩
       clear x0 x1 x2
       have hX2 := blk_below HX2.out hb
       replace hS2 := Kd.C_below hS2 hb
       replace hB2 := below_step hB2 hb
       clear hb HX2
       go_wp2
       go_ret3
       exact ⟨rfl, hB2⟩
      ·have hk := HK.out
       have ok := check_ok hk
       have hp3 := place_le E3.out
       have hf1 : -1 ≤ a2 := (by have := place_le E2.out; omega)
       have HL := Lib.hid (line_spec ok hf1 (show a2 < a3 by omega) hp3.2 0)
       have hr := H.out
       unfold ratioP at hr
       rw [if_pos ⟨hk, .inr ⟨h3, E2.out⟩, E3.out, by omega⟩] at hr
       simp only [Prod.mk.injEq] at hr
       obtain ⟨rfl, rfl, rfl⟩ := hr
       rw [HS.out] at HL
       have hf2 : a2 < a3 := by omega
       clear hk ok hp3 H hf1
       generalize lineN l0 a2 a3 = n at *
       generalize lineY l0 a2 a3 = y at *
       generalize lineZ l0 a2 a3 = z at *
       generalize rateP l0 a1 a2 a3 = r at *
       generalize overP l0 a1 a2 a3 = o at *
       clear h1 h3
       go_enter Try.func19, Try.ntmps19
       go_wp2_with fail
       refine HB.out.mono ?_
       rintro _ w1 ⟨A2, c2, rfl, hs, hc2, hb1⟩
       have hB2 : Below w.heap.size w (w1.alloc (.cells #[.slice A0 l0.length c0, .int .i64 a1, .slice A2 S.length c2] 67)) := below_alloc hb1 _
       have hX2 := blk_new w1 (.cells #[.slice A0 l0.length c0, .int .i64 a1, .slice A2 S.length c2] 67)
       have hS2 := Kd.C_alloc hs (.cells #[.slice A0 l0.length c0, .int .i64 a1, .slice A2 S.length c2] 67)
       go_wp2_with fail
       refine (HCK.out _ hB2).mono ?_
       rintro _ w2 ⟨rfl, hb⟩
       replace hX2 := blk_below hX2 hb
       replace hS2 := Kd.C_below hS2 hb
       replace hB2 := below_step hB2 hb
       clear hs hb hb1
       obtain ⟨x0, x1, x2⟩ := flow_cells hX2
       have HX2 := Lib.hid hX2
       clear hX2
       go_wp2_with fail
       refine (HP2.out A2 c2 _ hc2 hB2 hS2).mono ?_
       rintro _ w3 ⟨rfl, hb⟩
       clear x0 x1 x2
       have hX2 := blk_below HX2.out hb
       replace hS2 := Kd.C_below hS2 hb
       replace hB2 := below_step hB2 hb
       clear hb HX2
       obtain ⟨x0, x1, x2⟩ := flow_cells hX2
       have HX2 := Lib.hid hX2
       clear hX2
       go_wp2_with fail
       refine (HP3.out A2 c2 _ hc2 hB2 hS2).mono ?_
       rintro _ w3 ⟨rfl, hb⟩
       clear x0 x1 x2
       have hX2 := blk_below HX2.out hb
       replace hS2 := Kd.C_below hS2 hb
       replace hB2 := below_step hB2 hb
       clear hb HX2
       obtain ⟨x0, x1, x2⟩ := flow_cells hX2
       have HX2 := Lib.hid hX2
       clear hX2
       go_wp2_with fail
       refine (bfl.calls 2 A0 c0 l0 a1 A2 c2 S a2 a3 _ _ _ _ _ _ (Kd.C_below HR.out hB2) HC0.out hS2 hc2 HL.out).mono ?_
       rintro _ w3 ⟨rfl, hb⟩
       clear x0 x1 x2
       replace hB2 := below_step hB2 hb
       have hb4 := below_alloc hB2 (.cells #[.int .i64 n, .int .i64 y, .int .i64 z, .int .i64 r, .bool o] 87)
       go_wp2
       go_quiet (fail)
       go_wp2
       go_ret3
       refine ⟨?_, by apply pw_below_drewN; exact hb4⟩
       first | rfl | (simp; done)
 ·rw [hk] at HCK
  obtain ⟨rfl, rfl, rfl⟩ : r1 = 0 ∧ r2 = 0 ∧ r3 = 1 := by
   have := H.out
   unfold ratioP at this
   rw [if_neg (by rw [hk]; rintro ⟨h, _⟩; cases h)] at this
   simp only [Prod.mk.injEq] at this
   omega
  clear H hk
  go_enter Try.func19, Try.ntmps19
  go_wp2_with fail
  refine HB.out.mono ?_
  rintro _ w1 ⟨A2, c2, rfl, hs, hc2, hb1⟩
  have hB2 : Below w.heap.size w (w1.alloc (.cells #[.slice A0 l0.length c0, .int .i64 a1, .slice A2 S.length c2] 67)) := below_alloc hb1 _
  have hX2 := blk_new w1 (.cells #[.slice A0 l0.length c0, .int .i64 a1, .slice A2 S.length c2] 67)
  have hS2 := Kd.C_alloc hs (.cells #[.slice A0 l0.length c0, .int .i64 a1, .slice A2 S.length c2] 67)
  go_wp2_with fail
  refine (HCK.out _ hB2).mono ?_
  rintro _ w2 ⟨rfl, hb⟩
  replace hX2 := blk_below hX2 hb
  replace hS2 := Kd.C_below hS2 hb
  replace hB2 := below_step hB2 hb
  clear hs hb hb1
  go_wp2
  go_ret3
  exact ⟨rfl, hB2⟩
def best_Demerits.f (l0 : List S43) (a1 : Int) (l2 : List Int) : Option (Int × Int) := if l0.length ≤ 1000000 ∧ l2.length ≤ 100000 then some (demeritsP l0 a1 l2) else none
structure DemInv (l : List S43) (a1 : Int) (bs : List Int) (k : Nat) (f s : Int) : Prop where
 leg : legalB l (-1) bs = legalB l f (bs.drop k)
 tot : TotP l a1 (-1) bs = s + TotP l a1 f (bs.drop k)
 f0 : -1 ≤ f
 f1 : f ≤ l.length
 s0 : 0 ≤ s
 s1 : s ≤ 1000100202600 * k
 last : (k = 0 ∧ f = -1) ∨ (0 < k ∧ f = rd bs ((k : Int) - 1))
theorem dem_start (l : List S43) (a1 : Int) (bs : List Int) : DemInv l a1 bs 0 (-1) 0 := by
 refine ⟨rfl, ?_, ?_, ?_, ?_, ?_, ?_⟩
 ·rw [List.drop_zero]; exact (Int.zero_add _).symm
 ·omega
 ·omega
 ·omega
 ·omega
 ·exact .inl ⟨rfl, rfl⟩
theorem dem_next {l : List S43} {a1 : Int} (ok : OkL l a1) {bs : List Int} {k : Nat} {f s : Int} (h : DemInv l a1 bs k f s) (hk : k < bs.length) (h1 : f < rd bs k) (h2 : placeP l (rd bs k) = true) (h3 : legalP l f (rd bs k) = true) :
  DemInv l a1 bs (k + 1) (rd bs k) (s + costP l a1 f (rd bs k)) := by
 have hp := place_le h2
 have hc := costP_bd ok h.f0 h1 hp.2
 have d := rd_drop hk
 have a := h.s0
 have b := h.s1
 refine ⟨?_, ?_, ?_, ?_, ?_, ?_, ?_⟩
 ·rw [h.leg, d]
  simp only [legalB]
  rw [decide_eq_true h1, h2, h3]
  rfl
 ·rw [h.tot, d]
  simp only [TotP, Go.DP.totF]
  omega
 ·omega
 ·omega
 ·omega
 ·omega
 ·refine .inr ⟨by omega, ?_⟩
  congr 1
  omega
theorem dem_end {l : List S43} {a1 : Int} {bs : List Int} {f s : Int} (h : DemInv l a1 bs bs.length f s) (hp : 0 < bs.length) (hl : rd bs ((bs.length : Int) - 1) = l.length) (hc : checkP l a1 = 0) : demeritsP l a1 bs = (s, 0) := by
 have h1 := h.leg
 have h2 := h.tot
 have h3 : f = l.length := by
  rcases h.last with h | h
  ·omega
  ·rw [h.2, hl]
 rw [List.drop_length] at h1 h2
 have h4 : legalB l (-1) bs = true := by rw [h1, h3]; simp [legalB]
 unfold demeritsP legalL
 rw [h4, decide_eq_true hp, if_pos ⟨hc, rfl⟩, h2]
 simp [TotP, Go.DP.totF]
theorem dem_bad {l : List S43} {a1 : Int} {bs : List Int} {k : Nat} {f s : Int} (h : DemInv l a1 bs k f s) (hk : k < bs.length) (hbad : rd bs k ≤ f ∨ placeP l (rd bs k) = false ∨ legalP l f (rd bs k) = false) : demeritsP l a1 bs = (0, 1) := by
 have h1 := h.leg
 rw [rd_drop hk] at h1
 have h2 : legalB l (-1) bs = false := by
  rw [h1]
  simp only [legalB]
  rcases hbad with h | h | h
  ·rw [decide_eq_false (by omega)]; rfl
  ·rw [h]; simp
  ·rw [h]; simp
 unfold demeritsP legalL
 rw [h2, if_neg (by simp)]
theorem legalB_last (l : List S43) : ∀ (bs : List Int) (f : Int), 0 < bs.length → legalB l f bs = true → rd bs ((bs.length : Int) - 1) = l.length := by
 intro bs f hp h
 have := ((legalB_iff l bs f).1 h).2
 rw [List.getLast?_eq_getElem?] at this
 unfold rd
 rw [List.getD_eq_getElem?_getD, show ((bs.length : Int) - 1).toNat = bs.length - 1 by omega]
 rw [List.getElem?_eq_getElem (by omega)] at this ⊢
 simpa using this
set_option maxRecDepth 100000 in
set_option maxHeartbeats 8000000 in
theorem best_Demerits.calls (A0 : Option Addr) (c0 : Nat) (l0 : List S43) (a1 : Int) (A2 : Option Addr) (c2 : Nat) (l2 : List Int) (r1 r2 : Int) (w : World) (hr0 : Kd.C k43 w A0 l0.length l0) (hc0 : l0.length ≤ c0) (hr2 : Kd.C (Kd.int .i64) w A2 l2.length l2) (hc2 : l2.length ≤ c2) (h : best_Demerits.f l0 a1 l2 = some (r1, r2)) :
  Calls Try.prog 21 #[.slice A0 l0.length c0, .int .i64 a1, .slice A2 l2.length c2] w fun e w' => e = .returned (.tuple #[.int .i64 r1, .int .i64 r2]) ∧ Below w.heap.size w w' := by
 unfold best_Demerits.f at h
 have hl : l0.length ≤ 1000000 ∧ l2.length ≤ 100000 := by
  by_cases hl : l0.length ≤ 1000000 ∧ l2.length ≤ 100000
  ·exact hl
  ·rw [if_neg hl] at h; cases h
 rw [if_pos hl] at h
 obtain ⟨hl, hl2⟩ := hl
 replace h := Option.some.inj h
 have hb := begin_flow A0 c0 l0 a1 w hl hr0
 have HB := Lib.hid hb
 have hck := fun W (hW : Below w.heap.size w W) => best_Check.calls A0 c0 l0 a1 _ W (Kd.C_below hr0 hW) hc0 rfl
 have HCK := Lib.hid hck
 obtain ⟨S, hS⟩ : ∃ S, sumsTo l0 l0.length = S := ⟨_, rfl⟩
 have hpl := fun a A2 c2 W (hc2 : S.length ≤ c2) (hW : Below w.heap.size w W) (hs : Kd.C k85 W A2 S.length S) => best_flow_place.calls A0 c0 l0 a1 A2 c2 S a _ W (Kd.C_below hr0 hW) hc0 hs hc2 (place_f l0 a1 S a)
 have hlg := fun a b A2 c2 W (hc2 : S.length ≤ c2) (hW : Below w.heap.size w W) (hs : Kd.C k85 W A2 S.length S) => best_flow_legal.calls A0 c0 l0 a1 A2 c2 S a b _ W (Kd.C_below hr0 hW) hc0 hs hc2 (legal_f l0 a1 S a b)
 have hdm := fun a b r A2 c2 W (hc2 : S.length ≤ c2) (hW : Below w.heap.size w W) (hs : Kd.C k85 W A2 S.length S) (hf : best_flow_demerits.f 2 l0 a1 S a b = some r) => best_flow_demerits.calls 2 A0 c0 l0 a1 A2 c2 S a b r W (Kd.C_below hr0 hW) hc0 hs hc2 hf
 rw [hS] at HB
 have HP := Lib.hid hpl
 have HL := Lib.hid hlg
 have HD := Lib.hid hdm
 have HR := Lib.hid hr0
 have HR2 := Lib.hid hr2
 have HC0 := Lib.hid hc0
 have H := Lib.hid h
 have HS := Lib.hid hS
 have hnl : (l0.length : Int) ≤ 1000000 := by omega
 obtain ⟨n, hn⟩ : ∃ n, l2.length = n := ⟨_, rfl⟩
 have hnl2 : (n : Int) ≤ 100000 := by omega
 rw [hn] at hl2 ⊢
 have HN := Lib.hid hn
 clear hb hr0 hc0 h hck hpl hlg hdm hS hr2 hc2 hn
 rcases check_01 l0 a1 with hk | hk
 ·rw [hk] at HCK
  have HK := Lib.hid hk
  clear hk
  by_cases h0 : n = 0
  ·subst h0
   obtain ⟨rfl, rfl⟩ : r1 = 0 ∧ r2 = 1 := by
    have := H.out
    rw [show demeritsP l0 a1 l2 = (0, 1) by unfold demeritsP legalL; rw [if_neg (by rw [HN.out]; simp)]] at this
    simp only [Prod.mk.injEq] at this
    omega
   clear H
   go_enter Try.func21, Try.ntmps21
   go_wp2_with fail
   refine HB.out.mono ?_
   rintro _ w1 ⟨A3, c3, rfl, hs, hc3, hb1⟩
   have hB2 : Below w.heap.size w (w1.alloc (.cells #[.slice A0 l0.length c0, .int .i64 a1, .slice A3 S.length c3] 67)) := below_alloc hb1 _
   have hX2 := blk_new w1 (.cells #[.slice A0 l0.length c0, .int .i64 a1, .slice A3 S.length c3] 67)
   have hS2 := Kd.C_alloc hs (.cells #[.slice A0 l0.length c0, .int .i64 a1, .slice A3 S.length c3] 67)
   go_wp2_with fail
   refine (HCK.out _ hB2).mono ?_
   rintro _ w2 ⟨rfl, hb⟩
   replace hX2 := blk_below hX2 hb
   replace hS2 := Kd.C_below hS2 hb
   replace hB2 := below_step hB2 hb
   have hgB : w.heap.size ≤ w1.heap.size := hb1.size
   clear hs hb hb1
   go_wp2
   go_ret2
   exact ⟨rfl, hB2⟩
  ·have hpos : 0 < (n : Int) := by omega
   have hp1 : 1 ≤ (n : Int) := by omega
   have hn0 : ((n : Int) == 0) = false := beq_eq_false_iff_ne.2 (by omega)
   have hlast : ∀ W, Below w.heap.size w W → ∃ ad, A2 = some ad ∧ W.cell? (ad.add ((n : Int) - 1).toNat) = some (.int .i64 (rd l2 ((n : Int) - 1))) := fun W hW => Kd.at_int (Kd.C_below HR2.out hW) ((n : Int) - 1) (by omega) (by have := HN.out; omega)
   obtain ⟨x, hx⟩ : ∃ x, rd l2 ((n : Int) - 1) = x := ⟨_, rfl⟩
   rw [hx] at hlast
   obtain ⟨ad, rfl, _⟩ := hlast w (Below.refl _ _)
   have HLA : Hid (∀ W, Below w.heap.size w W → W.cell? (ad.add (n - 1)) = some (.int .i64 x)) := Lib.hid fun W hW => by
    obtain ⟨ad', e, hc⟩ := hlast W hW
    cases e
    rw [show ((n : Int) - 1).toNat = n - 1 by omega] at hc
    exact hc
   have HX := Lib.hid hx
   clear hx hlast
   by_cases hxl : x = l0.length
   ·have g1 : (x == (l0.length : Int)) = true := beq_iff_eq.2 hxl
    have g2 : (x != (l0.length : Int)) = false := bne_eq_false_iff_eq.2 hxl
    have HXL := Lib.hid hxl
    clear hxl
    go_enter Try.func21, Try.ntmps21
    go_wp2_with fail
    refine HB.out.mono ?_
    rintro _ w1 ⟨A3, c3, rfl, hs, hc3, hb1⟩
    have hB2 : Below w.heap.size w (w1.alloc (.cells #[.slice A0 l0.length c0, .int .i64 a1, .slice A3 S.length c3] 67)) := below_alloc hb1 _
    have hX2 := blk_new w1 (.cells #[.slice A0 l0.length c0, .int .i64 a1, .slice A3 S.length c3] 67)
    have hS2 := Kd.C_alloc hs (.cells #[.slice A0 l0.length c0, .int .i64 a1, .slice A3 S.length c3] 67)
    go_wp2_with fail
    refine (HCK.out _ hB2).mono ?_
    rintro _ w2 ⟨rfl, hb⟩
    replace hX2 := blk_below hX2 hb
    replace hS2 := Kd.C_below hS2 hb
    replace hB2 := below_step hB2 hb
    have hgB : w.heap.size ≤ w1.heap.size := hb1.size
    clear hs hb hb1
    have hlc := HLA.out _ hB2
    go_wp2_with fail
    clear hlc
    go_loopw [38, 9, 10] (fun v s f wr => ∃ (k : Nat) (sum from_ : Int), DemInv l0 a1 l2 k from_ sum ∧ v = .int .i64 k ∧ s = .int .i64 sum ∧ f = .int .i64 from_ ∧ k ≤ n ∧ wr.heap[w1.heap.size]? = some (.cells #[.slice A0 l0.length c0, .int .i64 a1, .slice A3 S.length c3] 67 (0, 0)) ∧ Kd.C k85 wr A3 S.length S ∧ Below w.heap.size w wr) (fun v _ _ _ => n - (intOf v).toNat)
    case atStart => exact ⟨0, 0, -1, dem_start _ _ _, rfl, rfl, rfl, Nat.zero_le _, hX2, hS2, hB2⟩
    case round =>
     clear hX2 hS2 hB2
     obtain ⟨k, sum, from_, hJ, rfl, rfl, rfl, hk, hX2, hS2, hB2⟩ := hrel
     have j1 := hJ.f0
     have j2 := hJ.f1
     have j3 := hJ.s0
     have j4 := hJ.s1
     have HJ := Lib.hid hJ
     clear hJ
     by_cases hlt : k < n
     ·have hlt1 : (k : Int) < (n : Int) := by omega
      have hkl : k < l2.length := by have := HN.out; omega
      obtain ⟨ad', e1, q0⟩ := Kd.at_int (Kd.C_below HR2.out hB2) k (by omega) (by omega)
      cases e1
      simp only [Int.toNat_natCast] at q0
      obtain ⟨b, hb0⟩ : ∃ b, rd l2 (k : Int) = b := ⟨_, rfl⟩
      rw [hb0] at q0
      have HBB := Lib.hid hb0
      clear hb0
      by_cases h1 : b ≤ from_
      ·obtain ⟨rfl, rfl⟩ : r1 = 0 ∧ r2 = 1 := by
        have := H.out
        rw [dem_bad HJ.out hkl (.inl (by rw [HBB.out]; exact h1))] at this
        simp only [Prod.mk.injEq] at this
        omega
       clear H
       go_wp2
       go_ret2
       exact ⟨rfl, hB2⟩
      ·have h1' : from_ < b := by omega
       obtain ⟨b2, e2⟩ : ∃ x, placeP l0 b = x := ⟨_, rfl⟩
       obtain ⟨b3, e3⟩ : ∃ x, legalP l0 from_ b = x := ⟨_, rfl⟩
       have hp2 := HP.out b
       have hp3 := HL.out from_ b
       rw [e2] at hp2
       rw [e3] at hp3
       have HP2 := Lib.hid hp2
       have HP3 := Lib.hid hp3
       have E2 := Lib.hid e2
       have E3 := Lib.hid e3
       clear hp2 hp3 e2 e3 hkl
       cases b2
       ·obtain ⟨rfl, rfl⟩ : r1 = 0 ∧ r2 = 1 := by
         have := H.out
         rw [dem_bad HJ.out (by have := HN.out; omega) (.inr (.inl (by rw [HBB.out]; exact E2.out)))] at this
         simp only [Prod.mk.injEq] at this
         omega
        clear H
        obtain ⟨x0, x1, x2⟩ := flow_cells hX2
        have HX2 := Lib.hid hX2
        clear hX2
        go_wp2_with fail
        refine (HP2.out A3 c3 _ hc3 hB2 hS2).mono ?_
        rintro _ w3 ⟨rfl, hb⟩
        clear x0 x1 x2
        have hX2 := blk_below HX2.out hb
        replace hS2 := Kd.C_below hS2 hb
        replace hB2 := below_step hB2 hb
        clear hb HX2
        go_wp2
        go_ret2
        exact ⟨rfl, hB2⟩
       ·cases b3
        ·obtain ⟨rfl, rfl⟩ : r1 = 0 ∧ r2 = 1 := by
          have := H.out
          rw [dem_bad HJ.out (by have := HN.out; omega) (.inr (.inr (by rw [HBB.out]; exact E3.out)))] at this
          simp only [Prod.mk.injEq] at this
          omega
         clear H
         obtain ⟨x0, x1, x2⟩ := flow_cells hX2
         have HX2 := Lib.hid hX2
         clear hX2
         go_wp2_with fail
         refine (HP2.out A3 c3 _ hc3 hB2 hS2).mono ?_
         rintro _ w3 ⟨rfl, hb⟩
         clear x0 x1 x2
         have hX2 := blk_below HX2.out hb
         replace hS2 := Kd.C_below hS2 hb
         replace hB2 := below_step hB2 hb
         clear hb HX2
         obtain ⟨x0, x1, x2⟩ := flow_cells hX2
         have HX2 := Lib.hid hX2
         clear hX2
         go_wp2_with fail
         refine (HP3.out A3 c3 _ hc3 hB2 hS2).mono ?_
         rintro _ w4 ⟨rfl, hb⟩
         clear x0 x1 x2
         have hX2 := blk_below HX2.out hb
         replace hS2 := Kd.C_below hS2 hb
         replace hB2 := below_step hB2 hb
         clear hb HX2
         go_wp2
         go_ret2
         exact ⟨rfl, hB2⟩
        ·have hp := place_le E2.out
         have ok := check_ok HK.out
         have hcb := costP_bd ok j1 h1' hp.2
         have hcost := demerits_spec ok j1 h1' hp.2 0
         have hnx := dem_next ok HJ.out (by have := HN.out; omega) (by rw [HBB.out]; exact h1') (by rw [HBB.out]; exact E2.out) (by rw [HBB.out]; exact E3.out)
         rw [HBB.out] at hnx
         rw [HS.out] at hcost
         generalize costP l0 a1 from_ b = cc at *
         have HNX := Lib.hid hnx
         have HCO := Lib.hid hcost
         clear hnx hcost ok
         obtain ⟨x0, x1, x2⟩ := flow_cells hX2
         have HX2 := Lib.hid hX2
         clear hX2
         go_wp2_with fail
         refine (HP2.out A3 c3 _ hc3 hB2 hS2).mono ?_
         rintro _ w3 ⟨rfl, hb⟩
         clear x0 x1 x2
         have hX2 := blk_below HX2.out hb
         replace hS2 := Kd.C_below hS2 hb
         replace hB2 := below_step hB2 hb
         clear hb HX2
         obtain ⟨x0, x1, x2⟩ := flow_cells hX2
         have HX2 := Lib.hid hX2
         clear hX2
         go_wp2_with fail
         refine (HP3.out A3 c3 _ hc3 hB2 hS2).mono ?_
         rintro _ w4 ⟨rfl, hb⟩
         clear x0 x1 x2
         have hX2 := blk_below HX2.out hb
         replace hS2 := Kd.C_below hS2 hb
         replace hB2 := below_step hB2 hb
         clear hb HX2
         obtain ⟨x0, x1, x2⟩ := flow_cells hX2
         have HX2 := Lib.hid hX2
         clear hX2
         go_wp2_with fail
         refine (HD.out _ _ _ A3 c3 _ hc3 hB2 hS2 HCO.out).mono ?_
         rintro _ w5 ⟨rfl, hb⟩
         clear x0 x1 x2
         have hX2 := blk_below HX2.out hb
         replace hS2 := Kd.C_below hS2 hb
         replace hB2 := below_step hB2 hb
         clear hb HX2
         go_wp2
         go_roundw
         case rel => exact ⟨k + 1, sum + cc, b, HNX.out, by go_num, rfl, rfl, by omega, hX2, hS2, hB2⟩
         case measure => simp [intOf]; omega
     ·obtain rfl : k = n := by omega
      have hlt1 : ¬ (k : Int) < (k : Int) := by omega
      obtain ⟨rfl, rfl⟩ : r1 = sum ∧ r2 = 0 := by
       have h5 := HJ.out
       have h6 := HX.out
       rw [← HN.out] at h5 h6
       have := dem_end h5 (by have := HN.out; omega) (by rw [h6]; exact HXL.out) HK.out
       rw [H.out] at this
       simpa using this
      go_wp2
      go_ret2
      exact ⟨rfl, hB2⟩
   ·have g1 : (x == (l0.length : Int)) = false := beq_eq_false_iff_ne.2 hxl
    have g2 : (x != (l0.length : Int)) = true := bne_iff_ne.2 hxl
    have HXL := Lib.hid hxl
    clear hxl
    obtain ⟨rfl, rfl⟩ : r1 = 0 ∧ r2 = 1 := by
     have := H.out
     rw [show demeritsP l0 a1 l2 = (0, 1) by
      unfold demeritsP legalL
      rw [if_neg]
      rintro ⟨_, h⟩
      simp only [Bool.and_eq_true, decide_eq_true_eq] at h
      have := legalB_last l0 l2 _ h.1 h.2
      rw [HN.out, HX.out] at this
      exact HXL.out this] at this
     simp only [Prod.mk.injEq] at this
     omega
    clear H
    go_enter Try.func21, Try.ntmps21
    go_wp2_with fail
    refine HB.out.mono ?_
    rintro _ w1 ⟨A3, c3, rfl, hs, hc3, hb1⟩
    have hB2 : Below w.heap.size w (w1.alloc (.cells #[.slice A0 l0.length c0, .int .i64 a1, .slice A3 S.length c3] 67)) := below_alloc hb1 _
    have hX2 := blk_new w1 (.cells #[.slice A0 l0.length c0, .int .i64 a1, .slice A3 S.length c3] 67)
    have hS2 := Kd.C_alloc hs (.cells #[.slice A0 l0.length c0, .int .i64 a1, .slice A3 S.length c3] 67)
    go_wp2_with fail
    refine (HCK.out _ hB2).mono ?_
    rintro _ w2 ⟨rfl, hb⟩
    replace hX2 := blk_below hX2 hb
    replace hS2 := Kd.C_below hS2 hb
    replace hB2 := below_step hB2 hb
    have hgB : w.heap.size ≤ w1.heap.size := hb1.size
    clear hs hb hb1
    have hlc := HLA.out _ hB2
    go_wp2
    go_ret2
    exact ⟨rfl, hB2⟩
 ·rw [hk] at HCK
  obtain ⟨rfl, rfl⟩ : r1 = 0 ∧ r2 = 1 := by
   have := H.out
   rw [show demeritsP l0 a1 l2 = (0, 1) by unfold demeritsP; rw [if_neg (by rw [hk]; rintro ⟨h, _⟩; cases h)]] at this
   simp only [Prod.mk.injEq] at this
   omega
  clear H hk
  go_enter Try.func21, Try.ntmps21
  go_wp2_with fail
  refine HB.out.mono ?_
  rintro _ w1 ⟨A3, c3, rfl, hs, hc3, hb1⟩
  have hB2 : Below w.heap.size w (w1.alloc (.cells #[.slice A0 l0.length c0, .int .i64 a1, .slice A3 S.length c3] 67)) := below_alloc hb1 _
  have hX2 := blk_new w1 (.cells #[.slice A0 l0.length c0, .int .i64 a1, .slice A3 S.length c3] 67)
  have hS2 := Kd.C_alloc hs (.cells #[.slice A0 l0.length c0, .int .i64 a1, .slice A3 S.length c3] 67)
  go_wp2_with fail
  refine (HCK.out _ hB2).mono ?_
  rintro _ w2 ⟨rfl, hb⟩
  replace hX2 := blk_below hX2 hb
  replace hS2 := Kd.C_below hS2 hb
  replace hB2 := below_step hB2 hb
  have hgB : w.heap.size ≤ w1.heap.size := hb1.size
  clear hs hb hb1
  go_wp2
  go_ret2
  exact ⟨rfl, hB2⟩
end Go.Proofs.Ytbddfnmhhmkfkaa.Pr
namespace Go.Proofs.Ytbddfnmhhmkfkaa.Pr
set_option linter.unusedVariables false
set_option linter.unusedSimpArgs false
open Go.RowKit Go.Proofs.YtbddfnmhhmkfkaaW.PrintWords Go.Proofs.YtbddfnmhhmkfkaaW.PrintLast Go.Proofs.YtbddfnmhhmkfkaaW.PrintMore
attribute [local go_sem] Oper.semAt_some run_store_func
def dashOf (l : List S43) (b : Int) : List S43 := if b < (l.length : Int) ∧ (rd_T43 l b).f0 = 3 then [rd_T43 l b] else []
def lineOf (toks : List S101) (l : List S43) (wd a b : Int) : S55 := setP toks ((l.take b.toNat).drop a.toNat) wd (b == (l.length : Int)) (dashOf l b)
def linesFrom (toks : List S101) (l : List S43) (wd : Int) : Int → List Int → List S55
 | _, [] => []
 | a, b :: bs => lineOf toks l wd a b :: linesFrom toks l wd (b + 1) bs
def brOk (n : Int) : Int → List Int → Bool
 | _, [] => true
 | a, b :: bs => decide (0 ≤ a ∧ a ≤ b ∧ b ≤ n) && brOk n (b + 1) bs
def kindOk (x : S43) : Bool := x.f0 == 1 || x.f0 == 2 || x.f0 == 3 || x.f0 == 4
def lines_Of.f (l0 : List S101) (l1 : List S43) (a2 : Int) (l3 : List Int) : Option (List S55 × Int) :=
 if l1.length ≤ 1000 ∧ l3.length ≤ 1000 then
  (if (demeritsP l1 a2 l3).2 = 0 then (if l1.any (oddT l0) = true then some ([], 1) else (if brOk l1.length 0 l3 = true ∧ l1.all kindOk = true then some (linesFrom l0 l1 a2 0 l3, 0) else none))
   else some ([], (demeritsP l1 a2 l3).2)) else none
theorem cut_one (l : List S43) (j : Nat) (h : j < l.length) : (l.take (j + 1)).drop j = [rd_T43 l j] := by
 rw [List.take_add_one, rd43_get l j h, List.drop_append_of_le_length (by rw [List.length_take]; omega), List.drop_eq_nil_of_le (by rw [List.length_take]; omega)]
 rfl
theorem own_R57 {w : World} {base : Nat} {v : Value} {xs : List S57} (h : w.ownsRow base 57 4 v xs.length (flat57 xs)) (ok : Nat → Prop) (hok : ∀ k, v.ownBlock = some k → ok k) : Kd.R k57 57 w base ok v xs := by
 refine ⟨hok, flat57 xs, h, by rw [flat57_length]; rfl, fun j p hp => ?_⟩
 have key : ∀ (xs : List S57) (j : Nat) (p : S57), xs[j]? = some p → ((flat57 xs).drop (j * 4)).take 4 = [.int .i64 p.f0, .int .u8 p.f1, .int .i64 p.f2, .int .i64 p.f3] := by
  intro xs
  induction xs with
  | nil => intro j p h; simp at h
  | cons x xs ih =>
   intro j p h
   cases j with
   | zero =>
    simp only [List.getElem?_cons_zero, Option.some.injEq] at h
    subst h
    simp [flat57]
   | succ j =>
    have := ih j p (by simpa using h)
    have e : flat57 (x :: xs) = [.int .i64 x.f0, .int .u8 x.f1, .int .i64 x.f2, .int .i64 x.f3] ++ flat57 xs := rfl
    rw [e, show (j + 1) * 4 = 4 + j * 4 by omega, ← List.drop_drop]
    exact this
 show k57.M w base ok p (((flat57 xs).drop (j * 4)).take 4)
 rw [key xs j p hp]
 exact k57_mkM w base ok p
set_option maxRecDepth 100000 in
set_option maxHeartbeats 4000000 in
theorem lines_Of.calls (A0 : Option Addr) (c0 : Nat) (l0 : List S101) (A1 : Option Addr) (c1 : Nat) (l1 : List S43) (a2 : Int) (A3 : Option Addr) (c3 : Nat) (l3 : List Int) (r1 : List S55) (r2 : Int) (w : World)
  (hr0 : Kd.C k101 w A0 l0.length l0) (hc0 : l0.length ≤ c0) (hr1 : Kd.C k43 w A1 l1.length l1) (hc1 : l1.length ≤ c1) (hr3 : Kd.C (Kd.int .i64) w A3 l3.length l3) (hc3 : l3.length ≤ c3) (h : lines_Of.f l0 l1 a2 l3 = some (r1, r2)) :
  Calls Try.prog 26 #[.slice A0 l0.length c0, .slice A1 l1.length c1, .int .i64 a2, .slice A3 l3.length c3] w fun e w' => ∃ v, e = .returned (.tuple #[v, .int .i64 r2]) ∧ Kd.S k55 55 w' w.heap.size (fun _ => True) v r1 ∧ Below w.heap.size w w' := by
 unfold lines_Of.f at h
 by_cases hsz : l1.length ≤ 1000 ∧ l3.length ≤ 1000
 case neg => rw [if_neg hsz] at h; cases h
 rw [if_pos hsz] at h
 obtain ⟨⟨d1, d2⟩, hd⟩ : ∃ p, demeritsP l1 a2 l3 = p := ⟨_, rfl⟩
 rw [hd] at h
 have hdem := fun W hW => best_Demerits.calls A1 c1 l1 a2 A3 c3 l3 d1 d2 W (Kd.C_below hr1 hW) hc1 (Kd.C_below hr3 hW) hc3 (by unfold best_Demerits.f; rw [if_pos ⟨by omega, by omega⟩, hd])
 have HDM := Lib.hid hdem
 have HT0 := Lib.hid hr0
 have HA1 := Lib.hid hr1
 have HA3 := Lib.hid hr3
 have hbx := blk_new w (.cells #[.slice A0 l0.length c0] 44)
 have hb0 := (Below.refl w.heap.size w).alloc (Nat.le_refl _) (.cells #[.slice A0 l0.length c0] 44)
 obtain ⟨w1, hw1⟩ : ∃ w1, w.alloc (.cells #[.slice A0 l0.length c0] 44) = w1 := ⟨_, rfl⟩
 rw [hw1] at hbx hb0
 have HBX := Lib.hid hbx
 have HB0 := Lib.hid hb0
 clear hbx hb0 hdem hr0 hr1 hr3 hd
 have H := Lib.hid h
 clear h
 go_enter Try.func26, Try.ntmps26
 go_wp2_with fail
 refine (HDM.out _ HB0.out).mono ?_
 rintro _ w2 ⟨rfl, hb2⟩
 have hbx2 := blk_below HBX.out hb2
 replace hb2 := HB0.out.trans (hb2.mono HB0.out.size)
 have HB2 := Lib.hid hb2
 have HX2 := Lib.hid hbx2
 clear hb2 hbx2 hw1
 by_cases hd2 : d2 = 0
 ·subst hd2
  have hH := H.out
  rw [if_pos rfl] at hH
  clear H
  cases hany : l1.any (oddT l0) with
  | true =>
   rw [hany, if_pos rfl] at hH
   cases hH
   have HANY : Hid (l1.any (oddT l0) = true) := hany
   clear hany
   go_wp2_with fail
   refine (hasTok_calls w.heap.size A1 c1 l1 w2 (by omega) (Kd.C_below HA1.out HB2.out) A0 c0 l0 hc0 (Kd.C_below HT0.out HB2.out) HX2.out).mono ?_
   rintro _ w3 ⟨rfl, hb3⟩
   rw [HANY.out]
   have hbx3 := blk_below HX2.out hb3
   replace hb3 := HB2.out.trans (hb3.mono HB2.out.size)
   have HB3 := Lib.hid hb3
   have HX3 := Lib.hid hbx3
   clear hb3 hbx3
   go_wp2
   go_ret2
   exact ⟨_, rfl, Kd.S_nil _ _ _ _ _, HB3.out⟩
  | false =>
   rw [hany, if_neg (by simp)] at hH
   by_cases hbk : brOk l1.length 0 l3 = true ∧ l1.all kindOk = true
   case neg => rw [if_neg hbk] at hH; cases hH
   rw [if_pos hbk] at hH
   cases hH
   obtain ⟨hbr, hko⟩ := hbk
   have HBR := Lib.hid hbr
   have hkinds : ∀ x ∈ l1, x.f0 = 1 ∨ x.f0 = 2 ∨ x.f0 = 3 ∨ x.f0 = 4 := fun x hx => by
    have := List.all_eq_true.1 hko x hx
    simpa [kindOk, or_assoc] using this
   have HKS := Lib.hid hkinds
   have HANY : Hid (l1.any (oddT l0) = false) := hany
   clear hbr hko hkinds hany
   go_wp2_with fail
   refine (hasTok_calls w.heap.size A1 c1 l1 w2 (by omega) (Kd.C_below HA1.out HB2.out) A0 c0 l0 hc0 (Kd.C_below HT0.out HB2.out) HX2.out).mono ?_
   rintro _ w3 ⟨rfl, hb3⟩
   rw [HANY.out]
   have hbx3 := blk_below HX2.out hb3
   replace hb3 := HB2.out.trans (hb3.mono HB2.out.size)
   have HB3 := Lib.hid hb3
   have HX3 := Lib.hid hbx3
   clear hb3 hbx3
   obtain ⟨n, hn⟩ : ∃ n, l1.length = n := ⟨_, rfl⟩
   obtain ⟨m, hm⟩ : ∃ m, l3.length = m := ⟨_, rfl⟩
   have HN := Lib.hid hn
   have HM := Lib.hid hm
   rw [hn, hm] at hsz
   obtain ⟨hn1, hm1⟩ := hsz
   have hbr0 := HBR.out
   rw [hn] at hbr0
   have HBR0 := Lib.hid hbr0
   clear hbr0 HBR HANY HDM
   go_wp2_with fail
   go_loopw [13, 14, 34] (fun v13 v14 v34 wr => ∃ (k : Nat) (fr : Int) (done : List S55), v34 = .int .i64 k ∧ k ≤ m ∧ v14 = .int .i64 fr ∧ 0 ≤ fr ∧ Kd.S k55 55 wr (w.heap.size + 1) (fun _ => True) v13 done ∧ Hid (done.length = k) ∧
    Hid (done ++ linesFrom l0 l1 a2 fr (l3.drop k) = linesFrom l0 l1 a2 0 l3) ∧ Hid (brOk n fr (l3.drop k) = true) ∧ Below w.heap.size w wr ∧ wr.heap[w.heap.size]? = some (.cells #[.slice A0 l0.length c0] 44 (0, 0))) (fun _ _ v _ => m - (intOf v).toNat)
   case atStart => exact ⟨0, 0, [], rfl, Nat.zero_le _, rfl, Int.le_refl _, Kd.S_nil _ _ _ _ _, rfl, rfl, HBR0.out, HB3.out, HX3.out⟩
   case round =>
    obtain ⟨k, fr, done, rfl, hk, rfl, hfr, hS, HL, HE, HB, hB, hX⟩ := hrel
    by_cases hlt : k < m
    ·have hlt1 : (k : Int) < (m : Int) := by omega
     obtain ⟨b, rest, hdr⟩ : ∃ b rest, l3.drop k = b :: rest := by
      have : k < l3.length := by have := HM.out; omega
      exact ⟨_, _, List.drop_eq_getElem_cons this⟩
     have hget : l3[k]? = some b := by
      have := congrArg (fun x => x[0]?) hdr
      simpa using this
     have hdr1 : l3.drop (k + 1) = rest := by
      have := congrArg List.tail hdr
      simpa using this
     obtain ⟨ad, e1, q0⟩ := Kd.at_int (Kd.C_below HA3.out hB) k (by omega) (by have := HM.out; omega)
     cases e1
     have hrd : rd l3 k = b := by
      unfold rd
      rw [Int.toNat_natCast, List.getD_eq_getElem?_getD, hget]
      rfl
     rw [hrd] at q0
     simp only [Int.toNat_natCast] at q0
     have hbr := HB.out
     rw [hdr] at hbr
     simp only [brOk, Bool.and_eq_true, decide_eq_true_eq] at hbr
     obtain ⟨⟨_, hfb, hbn⟩, hbr⟩ := hbr
     have hE := HE.out
     rw [hdr, linesFrom] at hE
     have HE1 : Hid ((done ++ [lineOf l0 l1 a2 fr b]) ++ linesFrom l0 l1 a2 (b + 1) rest = linesFrom l0 l1 a2 0 l3) := by
      rw [List.append_assoc]; exact hE
     have HB1 : Hid (brOk n (b + 1) rest = true) := hbr
     have HD1 : Hid (l3.drop (k + 1) = rest) := hdr1
     have HS9 := Lib.hid hS
     have HX9 := Lib.hid hX
     clear hdr hget hdr1 hrd hbr hE HE HB hS hX
     have hb0 : 0 ≤ b := by omega
     have hcase : (b < n ∧ (rd_T43 l1 b).f0 = 3) ∨ (b < n ∧ (rd_T43 l1 b).f0 ≠ 3) ∨ b = n := by
      by_cases h1 : b < n
      ·by_cases h2 : (rd_T43 l1 b).f0 = 3
       ·exact .inl ⟨h1, h2⟩
       ·exact .inr (.inl ⟨h1, h2⟩)
      ·exact .inr (.inr (by omega))
     rcases hcase with ⟨h1, h2⟩ | ⟨h1, h2⟩ | h1
     ·obtain ⟨ad1, e1, p0, _⟩ := at_T43 (Kd.C_below HA1.out hB) b hb0 (by have := HN.out; omega)
      cases e1
      obtain ⟨i43, hi43, _, hz43, _⟩ := info_parts info43
      have hcD := cut_mid (P := Try.prog) 22 43 .i64 .i64 Try.underlying22 hi43 5 hz43 (some ad1) n c1 b (b + 1) hb0 (by omega) (by omega) (by omega)
      have hcL := cut_mid (P := Try.prog) 22 43 .i64 .i64 Try.underlying22 hi43 5 hz43 (some ad1) n c1 fr b hfr hfb hbn (by omega)
      rw [h2] at p0
      have HH2 := Lib.hid h2
      clear h2
      go_wp2_with fail
      have hs0 := HS9.out
      obtain ⟨w4, hw4⟩ : ∃ w4, wr.drew = w4 := ⟨_, rfl⟩
      have hB4 : Below wr.heap.size wr w4 := by rw [← hw4]; exact below_drew1 (Below.refl _ _)
      have HB4 := Lib.hid hB4
      clear hs0 hB4
      refine Go.Mix.region_mix' (fun b W => Below wr.heap.size wr W) 99 12 [0] (by kernel_rfl) (by kernel_rfl) (fun _ _ _ _ _ h => h) (by rw [hw4]; exact HB4.out) ?_
      clear hw4
      refine Go.Mix.seqE_cons (t' := #[_, _, _, _, _, _, _, _, _, _, _, _, _, _, _, _, _, _, _, _, _, _, _, _, _, _, _, _, _, _, _, _, _, _, _, _, _, _, _, _, _, _, _, _, _, _, _, _, _, _, _, _, _, _, _, _, _, _, _, _, _, _, _, _, _, _, _, _, _, _, _, _, _, _]) _ _ rfl rfl (fun w' => rfl) rfl ?_
      refine Go.Mix.seqE_nil ?_
      apply Go.Mix.seqM_skip (by rfl)
      repeat
       apply Go.Mix.seqM_cons (by rfl) (by rfl)
       focus
        intro bb W hS
        have x0 := blk_cell (blk_below HX9.out hS) 0
        simp only [List.getElem?_toArray, List.getElem?_cons_zero] at x0
        have HSS := Lib.hid hS
        clear hS
        go_wp2
        exact Go.Det.AtEnd.mk HSS.out
      refine Go.Mix.seqM_nil ?_
      intro W hS
      have HSS := Lib.hid hS
      clear hS
      simp only [List.drop_succ_cons, List.drop_zero]
      go_wp2_with fail
      have hWB : Below w.heap.size w W := hB.trans (HSS.out.mono hB.size)
      have hNN := HN.out
      have hsub := Kd.C_mid (lo := fr.toNat) (hi := b.toNat) (c := c1) (Kd.C_below HA1.out hWB) (by omega) (by omega) hc1
      rw [if_neg (by omega)] at hsub
      have hdash := Kd.C_mid (lo := b.toNat) (hi := (b + 1).toNat) (c := c1) (Kd.C_below HA1.out hWB) (by omega) (by omega) hc1
      rw [if_neg (by omega)] at hdash
      have hsc := set_calls A0 c0 l0 (some (ad1.add (fr.toNat * 5))) (c1 - fr.toNat) ((l1.take b.toNat).drop fr.toNat) a2 (b == (n : Int)) (some (ad1.add (b.toNat * 5))) (c1 - b.toNat) ((l1.take (b + 1).toNat).drop b.toNat) W hc0 (Kd.C_below HT0.out hWB) hsub hdash
       (by rw [List.length_drop, List.length_take]; omega) (by rw [List.length_drop, List.length_take]; omega) (fun x hx => HKS.out x (List.mem_of_mem_take (List.mem_of_mem_drop hx))) (fun x hx => HKS.out x (List.mem_of_mem_take (List.mem_of_mem_drop hx)))
      have len1 : ((l1.take b.toNat).drop fr.toNat).length = b.toNat - fr.toNat := by rw [List.length_drop, List.length_take]; omega
      have len2 : ((l1.take (b + 1).toNat).drop b.toNat).length = (b + 1).toNat - b.toNat := by rw [List.length_drop, List.length_take]; omega
      rw [len1, len2] at hsc
      refine hsc.mono ?_
      rintro _ W2 ⟨v2, rfl, ho2, hb2⟩
      have HO2 := Lib.hid ho2
      have HW2 := Lib.hid hb2
      have HWB := Lib.hid hWB
      clear hsub hdash hsc len1 len2 ho2 hb2 hWB hNN
      obtain ⟨L, hL⟩ : ∃ L, setP l0 ((l1.take b.toNat).drop fr.toNat) a2 (b == (n : Int)) ((l1.take (b + 1).toNat).drop b.toNat) = L := ⟨_, rfl⟩
      have ho2' := HO2.out
      rw [hL] at ho2'
      have HO3 := Lib.hid ho2'
      clear ho2' HO2
      rw [hL]
      have HLL := Lib.hid hL
      clear hL
      go_wp2_with (at_builtin; refine Kd.S_append k55 (w0 := wr) (w.heap.size + 1) rfl _ _ 45 55 (.agg #[(.slice none 0 0), (.int .i64 0), (.int .i64 0)]) 40 rfl Try.underlying45 info55 rfl (by decide) (by decide) _ done L [v2, .int .i64 L.f1, .int .i64 L.f2] (fun _ => True) (fun k => v2.ownBlock = some k) rfl rfl ?g1 ?g2 ?g3 ?g4 ?g5 ?g6 ?g7 ?g8)
      case g1 => exact k55_mkM _ _ _ L (own_R57 (own_weaken HO3.out (by have := blk_lt HX9.out; have := HSS.out.size; omega)) _ (fun k hk => hk))
      case g2 =>
       intro j hj
       refine ⟨trivial, fun e => ?_⟩
       have q1 := own_base HO3.out j hj
       have q2 := HSS.out.size
       obtain ⟨inner, ho⟩ := Kd.S_own HS9.out
       rcases ho.2 with ⟨rfl, _⟩ | ⟨g, cap, cur, rfl, _, hg, _⟩
       ·cases e
       ·have := blk_lt hg
        have e' : some j = (Value.slice (some ⟨g, 0, none⟩) done.length cap).ownBlock := e
        obtain rfl : j = g := by simpa [Value.ownBlock] using e'
        omega
      case g3 => exact fun _ _ => trivial
      case g4 => exact Kd.S_mono (Kd.S_below (Kd.S_below (Kd.S_bound HS9.out) HSS.out) HW2.out) (fun j hj => ⟨trivial, fun e => by have q1 := own_base HO3.out j e; have q2 := HSS.out.size; have q3 := hj.2.2.1; omega⟩)
      case g5 => exact (HSS.out.mono (by have := blk_lt HX9.out; omega)).trans (HW2.out.mono (by have := blk_lt HX9.out; have := HSS.out.size; omega))
      case g6 => have := blk_lt HX9.out; have := HSS.out.size; have := HW2.out.size; omega
      case g7 => have := HL.out; omega
      case g8 =>
       intro v1 w5 hS1 hB1 hg1 hat1
       have HSN := Lib.hid hS1
       have HBN := Lib.hid (hB.trans (hB1.mono (by omega)))
       have HXN := Lib.hid ((hB1.block w.heap.size (by omega)).trans HX9.out)
       clear hS1 hB1 hg1 hat1
       go_wp2
       refine ⟨⟨k + 1, b + 1, done ++ [L], ?_, by omega, ?_, by omega, HSN.out, ?_, ?_, ?_, HBN.out, HXN.out⟩, ?_⟩
       ·simp
       ·rfl
       ·show (done ++ [L]).length = k + 1
        have := HL.out
        simp; omega
       ·have hL2 : L = lineOf l0 l1 a2 fr b := by
         have hN := HN.out
         rw [← HLL.out]
         unfold lineOf dashOf
         rw [if_pos ⟨by omega, HH2.out⟩, show (b + 1).toNat = b.toNat + 1 by omega, cut_one l1 b.toNat (by omega), Int.toNat_of_nonneg hb0, hN]
        show (done ++ [L]) ++ linesFrom l0 l1 a2 (b + 1) (l3.drop (k + 1)) = _
        rw [hL2, HD1.out]
        exact HE1.out
       ·show brOk n (b + 1) (l3.drop (k + 1)) = true
        rw [HD1.out]
        exact HB1.out
       ·simp [intOf]; omega
     ·obtain ⟨ad1, e1, p0, _⟩ := at_T43 (Kd.C_below HA1.out hB) b hb0 (by have := HN.out; omega)
      cases e1
      obtain ⟨i43, hi43, _, hz43, _⟩ := info_parts info43
      have hcL := cut_mid (P := Try.prog) 22 43 .i64 .i64 Try.underlying22 hi43 5 hz43 (some ad1) n c1 fr b hfr hfb hbn (by omega)
      have h2b := beq_eq_false_iff_ne.2 h2
      have HH2 : Hid (¬ (rd_T43 l1 b).f0 = 3) := h2
      clear h2
      go_wp2_with fail
      have hs0 := HS9.out
      obtain ⟨w4, hw4⟩ : ∃ w4, wr.drew = w4 := ⟨_, rfl⟩
      have hB4 : Below wr.heap.size wr w4 := by rw [← hw4]; exact below_drew1 (Below.refl _ _)
      have HB4 := Lib.hid hB4
      clear hs0 hB4
      refine Go.Mix.region_mix' (fun b W => Below wr.heap.size wr W) 99 12 [0] (by kernel_rfl) (by kernel_rfl) (fun _ _ _ _ _ h => h) (by rw [hw4]; exact HB4.out) ?_
      clear hw4
      refine Go.Mix.seqE_cons (t' := #[_, _, _, _, _, _, _, _, _, _, _, _, _, _, _, _, _, _, _, _, _, _, _, _, _, _, _, _, _, _, _, _, _, _, _, _, _, _, _, _, _, _, _, _, _, _, _, _, _, _, _, _, _, _, _, _, _, _, _, _, _, _, _, _, _, _, _, _, _, _, _, _, _, _]) _ _ rfl rfl (fun w' => rfl) rfl ?_
      refine Go.Mix.seqE_nil ?_
      apply Go.Mix.seqM_skip (by rfl)
      repeat
       apply Go.Mix.seqM_cons (by rfl) (by rfl)
       focus
        intro bb W hS
        have x0 := blk_cell (blk_below HX9.out hS) 0
        simp only [List.getElem?_toArray, List.getElem?_cons_zero] at x0
        have HSS := Lib.hid hS
        clear hS
        go_wp2
        exact Go.Det.AtEnd.mk HSS.out
      refine Go.Mix.seqM_nil ?_
      intro W hS
      have HSS := Lib.hid hS
      clear hS
      simp only [List.drop_succ_cons, List.drop_zero]
      go_wp2_with fail
      have hWB : Below w.heap.size w W := hB.trans (HSS.out.mono hB.size)
      have hNN := HN.out
      have hsub := Kd.C_mid (lo := fr.toNat) (hi := b.toNat) (c := c1) (Kd.C_below HA1.out hWB) (by omega) (by omega) hc1
      rw [if_neg (by omega)] at hsub
      have hdash : Kd.C k43 W none ([] : List S43).length [] := ⟨rfl, by simp, fun hp => absurd hp (by simp)⟩
      have hsc := set_calls A0 c0 l0 (some (ad1.add (fr.toNat * 5))) (c1 - fr.toNat) ((l1.take b.toNat).drop fr.toNat) a2 (b == (n : Int)) none 0 [] W hc0 (Kd.C_below HT0.out hWB) hsub hdash
       (by rw [List.length_drop, List.length_take]; omega) (by simp) (fun x hx => HKS.out x (List.mem_of_mem_take (List.mem_of_mem_drop hx))) (fun x hx => by cases hx)
      have len1 : ((l1.take b.toNat).drop fr.toNat).length = b.toNat - fr.toNat := by rw [List.length_drop, List.length_take]; omega
      rw [len1] at hsc
      refine hsc.mono ?_
      rintro _ W2 ⟨v2, rfl, ho2, hb2⟩
      have HO2 := Lib.hid ho2
      have HW2 := Lib.hid hb2
      have HWB := Lib.hid hWB
      clear hsub hdash hsc len1 ho2 hb2 hWB hNN
      obtain ⟨L, hL⟩ : ∃ L, setP l0 ((l1.take b.toNat).drop fr.toNat) a2 (b == (n : Int)) [] = L := ⟨_, rfl⟩
      have ho2' := HO2.out
      rw [hL] at ho2'
      have HO3 := Lib.hid ho2'
      clear ho2' HO2
      rw [hL]
      have HLL := Lib.hid hL
      clear hL
      go_wp2_with (at_builtin; refine Kd.S_append k55 (w0 := wr) (w.heap.size + 1) rfl _ _ 45 55 (.agg #[(.slice none 0 0), (.int .i64 0), (.int .i64 0)]) 40 rfl Try.underlying45 info55 rfl (by decide) (by decide) _ done L [v2, .int .i64 L.f1, .int .i64 L.f2] (fun _ => True) (fun k => v2.ownBlock = some k) rfl rfl ?g1 ?g2 ?g3 ?g4 ?g5 ?g6 ?g7 ?g8)
      case g1 => exact k55_mkM _ _ _ L (own_R57 (own_weaken HO3.out (by have := blk_lt HX9.out; have := HSS.out.size; omega)) _ (fun k hk => hk))
      case g2 =>
       intro j hj
       refine ⟨trivial, fun e => ?_⟩
       have q1 := own_base HO3.out j hj
       have q2 := HSS.out.size
       obtain ⟨inner, ho⟩ := Kd.S_own HS9.out
       rcases ho.2 with ⟨rfl, _⟩ | ⟨g, cap, cur, rfl, _, hg, _⟩
       ·cases e
       ·have := blk_lt hg
        have e' : some j = (Value.slice (some ⟨g, 0, none⟩) done.length cap).ownBlock := e
        obtain rfl : j = g := by simpa [Value.ownBlock] using e'
        omega
      case g3 => exact fun _ _ => trivial
      case g4 => exact Kd.S_mono (Kd.S_below (Kd.S_below (Kd.S_bound HS9.out) HSS.out) HW2.out) (fun j hj => ⟨trivial, fun e => by have q1 := own_base HO3.out j e; have q2 := HSS.out.size; have q3 := hj.2.2.1; omega⟩)
      case g5 => exact (HSS.out.mono (by have := blk_lt HX9.out; omega)).trans (HW2.out.mono (by have := blk_lt HX9.out; have := HSS.out.size; omega))
      case g6 => have := blk_lt HX9.out; have := HSS.out.size; have := HW2.out.size; omega
      case g7 => have := HL.out; omega
      case g8 =>
       intro v1 w5 hS1 hB1 hg1 hat1
       have HSN := Lib.hid hS1
       have HBN := Lib.hid (hB.trans (hB1.mono (by omega)))
       have HXN := Lib.hid ((hB1.block w.heap.size (by omega)).trans HX9.out)
       clear hS1 hB1 hg1 hat1
       go_wp2
       refine ⟨⟨k + 1, b + 1, done ++ [L], ?_, by omega, ?_, by omega, HSN.out, ?_, ?_, ?_, HBN.out, HXN.out⟩, ?_⟩
       ·simp
       ·rfl
       ·show (done ++ [L]).length = k + 1
        have := HL.out
        simp; omega
       ·have hL2 : L = lineOf l0 l1 a2 fr b := by
         have hN := HN.out
         rw [← HLL.out]
         unfold lineOf dashOf
         rw [if_neg (fun h => HH2.out h.2), hN]
        show (done ++ [L]) ++ linesFrom l0 l1 a2 (b + 1) (l3.drop (k + 1)) = _
        rw [hL2, HD1.out]
        exact HE1.out
       ·show brOk n (b + 1) (l3.drop (k + 1)) = true
        rw [HD1.out]
        exact HB1.out
       ·simp [intOf]; omega
     ·subst h1
      have h2 : ¬ (n : Int) < (n : Int) := by omega
      obtain ⟨i43, hi43, _, hz43, _⟩ := info_parts info43
      have hNN := HN.out
      obtain ⟨AL, hcL, hcut⟩ : ∃ AL, (∀ W : World, (Instr.slice 22 (.slice A1 n c1) (some (.int .i64 fr)) (some (.int .i64 (n : Int))) none).run Try.prog W = .ok (.slice AL (n - fr.toNat) (c1 - fr.toNat)) W) ∧ (∀ W, Kd.C k43 W A1 l1.length l1 → Kd.C k43 W AL ((l1.take n).drop fr.toNat).length ((l1.take n).drop fr.toNat)) :=
       ⟨_, cut_mid (P := Try.prog) 22 43 .i64 .i64 Try.underlying22 hi43 5 hz43 A1 n c1 fr (n : Int) hfr hfb hbn (by omega), fun W hC => Kd.C_mid (lo := fr.toNat) (hi := n) (c := c1) hC (by omega) (by omega) hc1⟩
      have HCUT := Lib.hid hcut
      clear hcut hNN
      go_wp2_with fail
      have hs0 := HS9.out
      obtain ⟨w4, hw4⟩ : ∃ w4, wr.drew = w4 := ⟨_, rfl⟩
      have hB4 : Below wr.heap.size wr w4 := by rw [← hw4]; exact below_drew1 (Below.refl _ _)
      have HB4 := Lib.hid hB4
      clear hs0 hB4
      refine Go.Mix.region_mix' (fun b W => Below wr.heap.size wr W) 99 12 [0] (by kernel_rfl) (by kernel_rfl) (fun _ _ _ _ _ h => h) (by rw [hw4]; exact HB4.out) ?_
      clear hw4
      refine Go.Mix.seqE_cons (t' := #[_, _, _, _, _, _, _, _, _, _, _, _, _, _, _, _, _, _, _, _, _, _, _, _, _, _, _, _, _, _, _, _, _, _, _, _, _, _, _, _, _, _, _, _, _, _, _, _, _, _, _, _, _, _, _, _, _, _, _, _, _, _, _, _, _, _, _, _, _, _, _, _, _, _]) _ _ rfl rfl (fun w' => rfl) rfl ?_
      refine Go.Mix.seqE_nil ?_
      apply Go.Mix.seqM_skip (by rfl)
      repeat
       apply Go.Mix.seqM_cons (by rfl) (by rfl)
       focus
        intro bb W hS
        have x0 := blk_cell (blk_below HX9.out hS) 0
        simp only [List.getElem?_toArray, List.getElem?_cons_zero] at x0
        have HSS := Lib.hid hS
        clear hS
        go_wp2
        exact Go.Det.AtEnd.mk HSS.out
      refine Go.Mix.seqM_nil ?_
      intro W hS
      have HSS := Lib.hid hS
      clear hS
      simp only [List.drop_succ_cons, List.drop_zero]
      go_wp2_with fail
      have hWB : Below w.heap.size w W := hB.trans (HSS.out.mono hB.size)
      have hNN := HN.out
      have hsub := HCUT.out W (Kd.C_below HA1.out hWB)
      have hdash : Kd.C k43 W none ([] : List S43).length [] := ⟨rfl, by simp, fun hp => absurd hp (by simp)⟩
      have hsc := set_calls A0 c0 l0 AL (c1 - fr.toNat) ((l1.take n).drop fr.toNat) a2 true none 0 [] W hc0 (Kd.C_below HT0.out hWB) hsub hdash
       (by rw [List.length_drop, List.length_take]; omega) (by simp) (fun x hx => HKS.out x (List.mem_of_mem_take (List.mem_of_mem_drop hx))) (fun x hx => by cases hx)
      have len1 : ((l1.take n).drop fr.toNat).length = n - fr.toNat := by rw [List.length_drop, List.length_take]; omega
      rw [len1] at hsc
      refine hsc.mono ?_
      rintro _ W2 ⟨v2, rfl, ho2, hb2⟩
      have HO2 := Lib.hid ho2
      have HW2 := Lib.hid hb2
      have HWB := Lib.hid hWB
      clear hsub hdash hsc len1 ho2 hb2 hWB hNN
      obtain ⟨L, hL⟩ : ∃ L, setP l0 ((l1.take n).drop fr.toNat) a2 true [] = L := ⟨_, rfl⟩
      have ho2' := HO2.out
      rw [hL] at ho2'
      have HO3 := Lib.hid ho2'
      clear ho2' HO2
      rw [hL]
      have HLL := Lib.hid hL
      clear hL
      go_wp2_with (at_builtin; refine Kd.S_append k55 (w0 := wr) (w.heap.size + 1) rfl _ _ 45 55 (.agg #[(.slice none 0 0), (.int .i64 0), (.int .i64 0)]) 40 rfl Try.underlying45 info55 rfl (by decide) (by decide) _ done L [v2, .int .i64 L.f1, .int .i64 L.f2] (fun _ => True) (fun k => v2.ownBlock = some k) rfl rfl ?g1 ?g2 ?g3 ?g4 ?g5 ?g6 ?g7 ?g8)
      case g1 => exact k55_mkM _ _ _ L (own_R57 (own_weaken HO3.out (by have := blk_lt HX9.out; have := HSS.out.size; omega)) _ (fun k hk => hk))
      case g2 =>
       intro j hj
       refine ⟨trivial, fun e => ?_⟩
       have q1 := own_base HO3.out j hj
       have q2 := HSS.out.size
       obtain ⟨inner, ho⟩ := Kd.S_own HS9.out
       rcases ho.2 with ⟨rfl, _⟩ | ⟨g, cap, cur, rfl, _, hg, _⟩
       ·cases e
       ·have := blk_lt hg
        have e' : some j = (Value.slice (some ⟨g, 0, none⟩) done.length cap).ownBlock := e
        obtain rfl : j = g := by simpa [Value.ownBlock] using e'
        omega
      case g3 => exact fun _ _ => trivial
      case g4 => exact Kd.S_mono (Kd.S_below (Kd.S_below (Kd.S_bound HS9.out) HSS.out) HW2.out) (fun j hj => ⟨trivial, fun e => by have q1 := own_base HO3.out j e; have q2 := HSS.out.size; have q3 := hj.2.2.1; omega⟩)
      case g5 => exact (HSS.out.mono (by have := blk_lt HX9.out; omega)).trans (HW2.out.mono (by have := blk_lt HX9.out; have := HSS.out.size; omega))
      case g6 => have := blk_lt HX9.out; have := HSS.out.size; have := HW2.out.size; omega
      case g7 => have := HL.out; omega
      case g8 =>
       intro v1 w5 hS1 hB1 hg1 hat1
       have HSN := Lib.hid hS1
       have HBN := Lib.hid (hB.trans (hB1.mono (by omega)))
       have HXN := Lib.hid ((hB1.block w.heap.size (by omega)).trans HX9.out)
       clear hS1 hB1 hg1 hat1
       go_wp2
       refine ⟨⟨k + 1, (n : Int) + 1, done ++ [L], ?_, by omega, ?_, by omega, HSN.out, ?_, ?_, ?_, HBN.out, HXN.out⟩, ?_⟩
       ·simp
       ·rfl
       ·show (done ++ [L]).length = k + 1
        have := HL.out
        simp; omega
       ·have hL2 : L = lineOf l0 l1 a2 fr (n : Int) := by
         have hN := HN.out
         rw [← HLL.out]
         unfold lineOf dashOf
         rw [if_neg (fun h => by have := h.1; omega), hN, beq_self_eq_true, Int.toNat_natCast]
        show (done ++ [L]) ++ linesFrom l0 l1 a2 ((n : Int) + 1) (l3.drop (k + 1)) = _
        rw [hL2, HD1.out]
        exact HE1.out
       ·show brOk n ((n : Int) + 1) (l3.drop (k + 1)) = true
        rw [HD1.out]
        exact HB1.out
       ·simp [intOf]; omega
    ·obtain rfl : k = m := by omega
     have hlt1 : ¬ (k : Int) < (k : Int) := by omega
     have hE := HE.out
     rw [List.drop_of_length_le (by have := HM.out; omega)] at hE
     simp only [linesFrom, List.append_nil] at hE
     have HS9 := Lib.hid hS
     have HX9 := Lib.hid hX
     have HE9 := Lib.hid hE
     clear hS hX hE
     go_wp2
     go_ret2
     exact ⟨_, rfl, by rw [← HE9.out]; exact Kd.S_lower HS9.out (by omega), hB⟩
 ·have hd2b : (d2 == 0) = false := beq_eq_false_iff_ne.2 hd2
  have hH := H.out
  rw [if_neg hd2] at hH
  cases hH
  clear H
  go_wp2
  go_ret2
  exact ⟨_, rfl, Kd.S_nil _ _ _ _ _, HB2.out⟩
end Go.Proofs.Ytbddfnmhhmkfkaa.Pr
namespace Go.Proofs.Ytbddfnmhhmkfkaa.Pr
open Go.RowKit Go.Proofs.YtbddfnmhhmkfkaaW.PrintWords Go.Proofs.YtbddfnmhhmkfkaaW.PrintLast Go.Proofs.YtbddfnmhhmkfkaaW.PrintMore
attribute [local go_sem] max2_int min2_int max_two min_two max_three min_three max_four min_four
set_option linter.unusedVariables false
set_option linter.unusedSimpArgs false
mutual
def s20_is.j0 : Nat → List Int → List (S55) → Bool → Option (Bool)
 | 0, _, _, _ => none
 | k + 1, x4, x13, x62 => if x62 = true then (some false) else (s20_is.l0 k x4 x13 0)
def s20_is.l0 : Nat → List Int → List (S55) → Int → Option (Bool)
 | 0, _, _, _ => none
 | k + 1, x4, x13, x15 => if x15 < (x4.length : Int) then (if 0 < (x13.length : Int) then (if 0 ≤ x15 then (if x15 < (((rd_T55 x13 0).f0).length : Int) then (if ((rd_T57 ((rd_T55 x13 0).f0) x15).f0) = (rd x4 x15) then (if x15 < 5 then (if ((rd_T57 ((rd_T55 x13 0).f0) x15).f1) = (bt (⟨#[97, 32, 98, 32, 99]⟩ : ByteArray) x15) then (if ((rd_T57 ((rd_T55 x13 0).f0) x15).f3) = x15 then (s20_is.l0 k x4 x13 (wrap64 (x15 + 1))) else (some false)) else (some false)) else (none)) else (some false)) else (none)) else (none)) else (none)) else (some true)
end
def s20_is.f (k : Nat) (a0 : Int) (l1 : List Int) (a2 : Int) (a3 : Int) (l4 : List Int) : Option (Bool) := (s20_abc.f k).bind fun bt407 => ((lines_Of.f bt407.1 bt407.2 a0 l1).bind fun bt413 => (if bt413.2 = 0 then (if (bt413.1.length : Int) = (l1.length : Int) then (if 0 < (bt413.1.length : Int) then (if ((rd_T55 bt413.1 0).f1) = a2 then (if ((rd_T55 bt413.1 0).f2) = a3 then (s20_is.j0 k l4 bt413.1 ((((rd_T55 bt413.1 0).f0).length : Int) != (l4.length : Int))) else (s20_is.j0 k l4 bt413.1 true)) else (s20_is.j0 k l4 bt413.1 true)) else (none)) else (s20_is.j0 k l4 bt413.1 true)) else (s20_is.j0 k l4 bt413.1 true)))
theorem s20_is.mono_l : ∀ k, (∀ y0 y1 y2, LeO (s20_is.j0 k y0 y1 y2) (s20_is.j0 (k + 1) y0 y1 y2)) ∧ (∀ y0 y1 y2, LeO (s20_is.l0 k y0 y1 y2) (s20_is.l0 (k + 1) y0 y1 y2))
 | 0 => ⟨fun _ _ _ r h => by simp [s20_is.j0] at h, fun _ _ _ r h => by simp [s20_is.l0] at h⟩
 | k + 1 => by
  obtain ⟨ih0, ih1⟩ := s20_is.mono_l k
  refine ⟨?_, ?_⟩
  ·intro y0 y1 y2
   unfold s20_is.j0
   repeat' first
   | (with_reducible exact ih0 _ _ _)
   | (with_reducible exact ih1 _ _ _)
   | (with_reducible exact s20_abc.mono _)
   | (with_reducible exact LeO.refl _)
   | (with_reducible exact LeO.none _)
   | (with_reducible refine LeO.ite ?_ ?_)
   | (with_reducible refine LeO.bind ?_ (fun _ => ?_))
   | exact ih0 _ _ _
   | exact ih1 _ _ _
   | exact s20_abc.mono _
   | exact LeO.none _
   | refine LeO.ite ?_ ?_
   | refine LeO.bind ?_ (fun _ => ?_)
  ·intro y0 y1 y2
   unfold s20_is.l0
   repeat' first
   | (with_reducible exact ih0 _ _ _)
   | (with_reducible exact ih1 _ _ _)
   | (with_reducible exact s20_abc.mono _)
   | (with_reducible exact LeO.refl _)
   | (with_reducible exact LeO.none _)
   | (with_reducible refine LeO.ite ?_ ?_)
   | (with_reducible refine LeO.bind ?_ (fun _ => ?_))
   | exact ih0 _ _ _
   | exact ih1 _ _ _
   | exact s20_abc.mono _
   | exact LeO.none _
   | refine LeO.ite ?_ ?_
   | refine LeO.bind ?_ (fun _ => ?_)
theorem s20_is.mono : ∀ a0 a1 a2 a3 a4 k, LeO (s20_is.f k a0 a1 a2 a3 a4) (s20_is.f (k + 1) a0 a1 a2 a3 a4) := by
 intro a0 a1 a2 a3 a4 k
 obtain ⟨ih0, ih1⟩ := s20_is.mono_l k
 unfold s20_is.f
 repeat' first
   | (with_reducible exact ih0 _ _ _)
   | (with_reducible exact ih1 _ _ _)
   | (with_reducible exact s20_abc.mono _)
   | (with_reducible exact LeO.refl _)
   | (with_reducible exact LeO.none _)
   | (with_reducible refine LeO.ite ?_ ?_)
   | (with_reducible refine LeO.bind ?_ (fun _ => ?_))
   | exact ih0 _ _ _
   | exact ih1 _ _ _
   | exact s20_abc.mono _
   | exact LeO.none _
   | refine LeO.ite ?_ ?_
   | refine LeO.bind ?_ (fun _ => ?_)
set_option maxHeartbeats 8000000 in
set_option maxRecDepth 100000 in
theorem s20_is.calls (k : Nat) (a0 : Int) (A1 : Option Addr) (c1 : Nat) (l1 : List Int) (a2 : Int) (a3 : Int) (A4 : Option Addr) (c4 : Nat) (l4 : List Int) (r : Bool) (w : World) (hr1 : Kd.C (Kd.int .i64) w A1 l1.length l1) (hc1 : l1.length ≤ c1) (hr4 : Kd.C (Kd.int .i64) w A4 l4.length l4) (hc4 : l4.length ≤ c4) (h : s20_is.f k a0 l1 a2 a3 l4 = some r) :
  Calls Try.prog 59 #[.int .i64 a0, .slice A1 l1.length c1, .int .i64 a2, .int .i64 a3, .slice A4 l4.length c4] w fun e w' => e = .returned (.bool r) ∧ Below w.heap.size w w' := by
 have HR1 := Aside0.mk hr1
 have HC1 := Aside0.mk hc1
 clear hr1 hc1
 have HR4 := Aside0.mk hr4
 have HC4 := Aside0.mk hc4
 clear hr4 hc4
 have HB := Aside0.mk (Below.refl w.heap.size w)
 have H : ((s20_abc.f k).bind fun bt407 => ((lines_Of.f bt407.1 bt407.2 a0 l1).bind fun bt413 => (if bt413.2 = 0 then (if (bt413.1.length : Int) = (l1.length : Int) then (if 0 < (bt413.1.length : Int) then (if ((rd_T55 bt413.1 0).f1) = a2 then (if ((rd_T55 bt413.1 0).f2) = a3 then (s20_is.j0 k l4 bt413.1 ((((rd_T55 bt413.1 0).f0).length : Int) != (l4.length : Int))) else (s20_is.j0 k l4 bt413.1 true)) else (s20_is.j0 k l4 bt413.1 true)) else (none)) else (s20_is.j0 k l4 bt413.1 true)) else (s20_is.j0 k l4 bt413.1 true)))) = some r := h
 clear h
 replace H := Option.bind_eq_some_iff.mp H
 obtain ⟨⟨t407, t408⟩, A60, H⟩ := H
 replace H : ((lines_Of.f t407 t408 a0 l1).bind fun bt413 => (if bt413.2 = 0 then (if (bt413.1.length : Int) = (l1.length : Int) then (if 0 < (bt413.1.length : Int) then (if ((rd_T55 bt413.1 0).f1) = a2 then (if ((rd_T55 bt413.1 0).f2) = a3 then (s20_is.j0 k l4 bt413.1 ((((rd_T55 bt413.1 0).f0).length : Int) != (l4.length : Int))) else (s20_is.j0 k l4 bt413.1 true)) else (s20_is.j0 k l4 bt413.1 true)) else (none)) else (s20_is.j0 k l4 bt413.1 true)) else (s20_is.j0 k l4 bt413.1 true))) = some r := H
 have A6 := Aside0.mk A60
 clear A60
 replace H := Option.bind_eq_some_iff.mp H
 obtain ⟨⟨t413, t414⟩, A70, H⟩ := H
 replace H : (if t414 = 0 then (if (t413.length : Int) = (l1.length : Int) then (if 0 < (t413.length : Int) then (if ((rd_T55 t413 0).f1) = a2 then (if ((rd_T55 t413 0).f2) = a3 then (s20_is.j0 k l4 t413 ((((rd_T55 t413 0).f0).length : Int) != (l4.length : Int))) else (s20_is.j0 k l4 t413 true)) else (s20_is.j0 k l4 t413 true)) else (none)) else (s20_is.j0 k l4 t413 true)) else (s20_is.j0 k l4 t413 true)) = some r := H
 have A7 := Aside0.mk A70
 clear A70
 have HC8 := Aside0.mk H
 clear H
 go_enter Try.func59, Try.ntmps59
 go_upto_region 3 with (first | (go_at_call 79; (with_reducible refine (s20_abc.calls k  t407 t408 _ A6.out).mono ?_); rintro e w9 ⟨v409, v411, rfl, ho0, ho1, hb⟩; have n0_ := Aside0.mk (Kd.R_lower ho0 (below_size (by repeat (first | (with_reducible first | exact HB.out | apply below_alloc | apply pw_below_drewN | apply below_drew1) | exact HB.out)))); have n1_ := Aside0.mk (Kd.R_lower ho1 (below_size (by repeat (first | (with_reducible first | exact HB.out | apply below_alloc | apply pw_below_drewN | apply below_drew1) | exact HB.out)))); have n2_ := Aside0.mk (below_step (by repeat (first | (with_reducible first | exact HB.out | apply below_alloc | apply pw_below_drewN | apply below_drew1) | exact HB.out)) hb); clear HB; have HO410 := n0_; have HO412 := n1_; have HB := n2_; clear n0_ n1_ n2_; (try clear hb); (try clear hb2); (try clear hk); (try clear hi); (try clear ho0); (try clear ho1); obtain ⟨Ao10, co10, eo10⟩ := Kd.R_slice HO410.out; subst eo10; obtain ⟨Ao11, co11, eo11⟩ := Kd.R_slice HO412.out; subst eo11) | (go_at_call 26; (with_reducible refine (lines_Of.calls _ _ t407 _ _ t408 a0 _ _ l1 t413 t414 _ ?side1 ?side2 ?side3 ?side4 ?side5 ?side6 A7.out).mono ?_); (case side1 => repeat (first | exact (Kd.R_reads' HO410.out).2.2 | (with_reducible refine Kd.C_alloc ?_ _) | (with_reducible refine Kd.C_drewN ?_ _) | (with_reducible refine Kd.C_drew ?_))); (case side2 => exact (Kd.R_reads' HO410.out).2.1); (case side3 => repeat (first | exact (Kd.R_reads' HO412.out).2.2 | (with_reducible refine Kd.C_alloc ?_ _) | (with_reducible refine Kd.C_drewN ?_ _) | (with_reducible refine Kd.C_drew ?_))); (case side4 => exact (Kd.R_reads' HO412.out).2.1); (case side5 => repeat (first | exact (Kd.C_below HR1.out HB.out) | (with_reducible refine Kd.C_alloc ?_ _) | (with_reducible refine Kd.C_drewN ?_ _) | (with_reducible refine Kd.C_drew ?_))); (case side6 => exact HC1.out); rintro e w12 ⟨v415, rfl, ho0, hb⟩; have n0_ := Aside0.mk (Kd.R_below (by (with_reducible repeat (first | apply Kd.R_alloc | apply Kd.R_drewN | apply Kd.R_drew)); exact HO410.out) hb); have n1_ := Aside0.mk (Kd.R_below (by (with_reducible repeat (first | apply Kd.R_alloc | apply Kd.R_drewN | apply Kd.R_drew)); exact HO412.out) hb); have n2_ := Aside0.mk (Kd.S_lower ho0 (below_size (by repeat (first | (with_reducible first | exact HB.out | apply below_alloc | apply pw_below_drewN | apply below_drew1) | exact HB.out)))); have n3_ := Aside0.mk (below_step (by repeat (first | (with_reducible first | exact HB.out | apply below_alloc | apply pw_below_drewN | apply below_drew1) | exact HB.out)) hb); clear HO410; clear HO412; clear HB; have HO410 := n0_; have HO412 := n1_; have HO416 := n2_; have HB := n3_; clear n0_ n1_ n2_ n3_; (try clear hb); (try clear hb2); (try clear hk); (try clear hi); (try clear ho0)))
 repeat (go_quiet (first | (go_at_call 79; (with_reducible refine (s20_abc.calls k  t407 t408 _ A6.out).mono ?_); rintro e w9 ⟨v409, v411, rfl, ho0, ho1, hb⟩; have n0_ := Aside0.mk (Kd.R_lower ho0 (below_size (by repeat (first | (with_reducible first | exact HB.out | apply below_alloc | apply pw_below_drewN | apply below_drew1) | exact HB.out)))); have n1_ := Aside0.mk (Kd.R_lower ho1 (below_size (by repeat (first | (with_reducible first | exact HB.out | apply below_alloc | apply pw_below_drewN | apply below_drew1) | exact HB.out)))); have n2_ := Aside0.mk (below_step (by repeat (first | (with_reducible first | exact HB.out | apply below_alloc | apply pw_below_drewN | apply below_drew1) | exact HB.out)) hb); clear HB; have HO410 := n0_; have HO412 := n1_; have HB := n2_; clear n0_ n1_ n2_; (try clear hb); (try clear hb2); (try clear hk); (try clear hi); (try clear ho0); (try clear ho1); obtain ⟨Ao10, co10, eo10⟩ := Kd.R_slice HO410.out; subst eo10; obtain ⟨Ao11, co11, eo11⟩ := Kd.R_slice HO412.out; subst eo11) | (go_at_call 26; (with_reducible refine (lines_Of.calls _ _ t407 _ _ t408 a0 _ _ l1 t413 t414 _ ?side1 ?side2 ?side3 ?side4 ?side5 ?side6 A7.out).mono ?_); (case side1 => repeat (first | exact (Kd.R_reads' HO410.out).2.2 | (with_reducible refine Kd.C_alloc ?_ _) | (with_reducible refine Kd.C_drewN ?_ _) | (with_reducible refine Kd.C_drew ?_))); (case side2 => exact (Kd.R_reads' HO410.out).2.1); (case side3 => repeat (first | exact (Kd.R_reads' HO412.out).2.2 | (with_reducible refine Kd.C_alloc ?_ _) | (with_reducible refine Kd.C_drewN ?_ _) | (with_reducible refine Kd.C_drew ?_))); (case side4 => exact (Kd.R_reads' HO412.out).2.1); (case side5 => repeat (first | exact (Kd.C_below HR1.out HB.out) | (with_reducible refine Kd.C_alloc ?_ _) | (with_reducible refine Kd.C_drewN ?_ _) | (with_reducible refine Kd.C_drew ?_))); (case side6 => exact HC1.out); rintro e w12 ⟨v415, rfl, ho0, hb⟩; have n0_ := Aside0.mk (Kd.R_below (by (with_reducible repeat (first | apply Kd.R_alloc | apply Kd.R_drewN | apply Kd.R_drew)); exact HO410.out) hb); have n1_ := Aside0.mk (Kd.R_below (by (with_reducible repeat (first | apply Kd.R_alloc | apply Kd.R_drewN | apply Kd.R_drew)); exact HO412.out) hb); have n2_ := Aside0.mk (Kd.S_lower ho0 (below_size (by repeat (first | (with_reducible first | exact HB.out | apply below_alloc | apply pw_below_drewN | apply below_drew1) | exact HB.out)))); have n3_ := Aside0.mk (below_step (by repeat (first | (with_reducible first | exact HB.out | apply below_alloc | apply pw_below_drewN | apply below_drew1) | exact HB.out)) hb); clear HO410; clear HO412; clear HB; have HO410 := n0_; have HO412 := n1_; have HO416 := n2_; have HB := n3_; clear n0_ n1_ n2_ n3_; (try clear hb); (try clear hb2); (try clear hk); (try clear hi); (try clear ho0))); go_upto_region 3 with (first | (go_at_call 79; (with_reducible refine (s20_abc.calls k  t407 t408 _ A6.out).mono ?_); rintro e w9 ⟨v409, v411, rfl, ho0, ho1, hb⟩; have n0_ := Aside0.mk (Kd.R_lower ho0 (below_size (by repeat (first | (with_reducible first | exact HB.out | apply below_alloc | apply pw_below_drewN | apply below_drew1) | exact HB.out)))); have n1_ := Aside0.mk (Kd.R_lower ho1 (below_size (by repeat (first | (with_reducible first | exact HB.out | apply below_alloc | apply pw_below_drewN | apply below_drew1) | exact HB.out)))); have n2_ := Aside0.mk (below_step (by repeat (first | (with_reducible first | exact HB.out | apply below_alloc | apply pw_below_drewN | apply below_drew1) | exact HB.out)) hb); clear HB; have HO410 := n0_; have HO412 := n1_; have HB := n2_; clear n0_ n1_ n2_; (try clear hb); (try clear hb2); (try clear hk); (try clear hi); (try clear ho0); (try clear ho1); obtain ⟨Ao10, co10, eo10⟩ := Kd.R_slice HO410.out; subst eo10; obtain ⟨Ao11, co11, eo11⟩ := Kd.R_slice HO412.out; subst eo11) | (go_at_call 26; (with_reducible refine (lines_Of.calls _ _ t407 _ _ t408 a0 _ _ l1 t413 t414 _ ?side1 ?side2 ?side3 ?side4 ?side5 ?side6 A7.out).mono ?_); (case side1 => repeat (first | exact (Kd.R_reads' HO410.out).2.2 | (with_reducible refine Kd.C_alloc ?_ _) | (with_reducible refine Kd.C_drewN ?_ _) | (with_reducible refine Kd.C_drew ?_))); (case side2 => exact (Kd.R_reads' HO410.out).2.1); (case side3 => repeat (first | exact (Kd.R_reads' HO412.out).2.2 | (with_reducible refine Kd.C_alloc ?_ _) | (with_reducible refine Kd.C_drewN ?_ _) | (with_reducible refine Kd.C_drew ?_))); (case side4 => exact (Kd.R_reads' HO412.out).2.1); (case side5 => repeat (first | exact (Kd.C_below HR1.out HB.out) | (with_reducible refine Kd.C_alloc ?_ _) | (with_reducible refine Kd.C_drewN ?_ _) | (with_reducible refine Kd.C_drew ?_))); (case side6 => exact HC1.out); rintro e w12 ⟨v415, rfl, ho0, hb⟩; have n0_ := Aside0.mk (Kd.R_below (by (with_reducible repeat (first | apply Kd.R_alloc | apply Kd.R_drewN | apply Kd.R_drew)); exact HO410.out) hb); have n1_ := Aside0.mk (Kd.R_below (by (with_reducible repeat (first | apply Kd.R_alloc | apply Kd.R_drewN | apply Kd.R_drew)); exact HO412.out) hb); have n2_ := Aside0.mk (Kd.S_lower ho0 (below_size (by repeat (first | (with_reducible first | exact HB.out | apply below_alloc | apply pw_below_drewN | apply below_drew1) | exact HB.out)))); have n3_ := Aside0.mk (below_step (by repeat (first | (with_reducible first | exact HB.out | apply below_alloc | apply pw_below_drewN | apply below_drew1) | exact HB.out)) hb); clear HO410; clear HO412; clear HB; have HO410 := n0_; have HO412 := n1_; have HO416 := n2_; have HB := n3_; clear n0_ n1_ n2_ n3_; (try clear hb); (try clear hb2); (try clear hk); (try clear hi); (try clear ho0))))
 (try simp only [Act.put, List.setIfInBounds_toArray, List.set_cons_zero, List.set_cons_succ])
 go_cut [62] (fun v62 wc => ∃ (kq : Nat) (x62_7 : Bool), v62 = .bool x62_7 ∧ Aside0 (s20_is.j0 kq l4 t413 x62_7 = some r) ∧ Aside0 (kq ≤ k) ∧ Aside0 (Kd.S k55 55 wc w.heap.size (fun _ => True) v415 t413) ∧ Aside0 (Below w.heap.size w wc))
 case first =>
  have H := HC8.out
  clear HC8
  by_cases c13 : t414 = 0
  ·rw [if_pos c13] at H
   have c13b0 : (t414 == 0) = true := beq_iff_eq.mpr c13
   have c13b1 : (t414 != 0) = false := bne_eq_false_iff_eq.mpr c13
   clear c13
   (first | rw [c13b0] | (simp only [i64_w, i32_w]; rw [c13b0]) | skip)
   by_cases c14 : (t413.length : Int) = (l1.length : Int)
   ·rw [if_pos c14] at H
    have c14b0 : ((t413.length : Int) == (l1.length : Int)) = true := beq_iff_eq.mpr c14
    have c14b1 : ((t413.length : Int) != (l1.length : Int)) = false := bne_eq_false_iff_eq.mpr c14
    have c14b2 : (t413.length == l1.length) = true := by first | simpa using c14 | (simp at c14 ⊢; omega)
    clear c14
    by_cases c15 : 0 < (t413.length : Int)
    ·rw [if_pos c15] at H
     have c15b0 : decide (0 < (t413.length : Int)) = true := decide_eq_true c15
     have c15b1 : decide (0 < t413.length) = true := decide_eq_true (by omega)
     clear c15
     by_cases c16 : ((rd_T55 t413 0).f1) = a2
     ·rw [if_pos c16] at H
      have c16b0 : (((rd_T55 t413 0).f1) == a2) = true := beq_iff_eq.mpr c16
      have c16b1 : (((rd_T55 t413 0).f1) != a2) = false := bne_eq_false_iff_eq.mpr c16
      clear c16
      by_cases c17 : ((rd_T55 t413 0).f2) = a3
      ·rw [if_pos c17] at H
       have c17b0 : (((rd_T55 t413 0).f2) == a3) = true := beq_iff_eq.mpr c17
       have c17b1 : (((rd_T55 t413 0).f2) != a3) = false := bne_eq_false_iff_eq.mpr c17
       clear c17
       have H' := Aside0.mk H
       clear H
       obtain ⟨Ao18, co18, eo18⟩ := Kd.S_slice HO416.out
       subst eo18
       have p417 : 0 ≤ (0 : Int) := (by omega)
       have q417 : 0 < (t413.length : Int) := of_decide_eq_true (by first | (with_reducible assumption) | assumption)
       obtain ⟨ad417, A417_0, c417_0, e417, hx417_0, hx417_1, hx417_2, hl417_0, hi417_0⟩ := at_T55 (Kd.S_reads' HO416.out).2.2 0 p417 q417
       cases e417
       obtain ⟨ce417, hce417, hMe417, hcc417⟩ := Kd.S_get HO416.out z55 0 p417 (by first | exact q417 | exact of_decide_eq_true (by first | (with_reducible assumption) | assumption) | (have e_ := (Kd.S_reads' HO416.out).1; omega))
       obtain ⟨ve417_0, rfl, ge417_0⟩ := k55_openM hMe417
       have hv417_0 := hcc417 0 _ rfl
       rw [Nat.add_zero] at hv417_0
       replace hv417_0 := Option.some.inj (hv417_0.symm.trans hx417_0)
       rw [hv417_0] at ge417_0
       have HL417_0 := Aside0.mk (show Kd.R k57 57 _ _ _ _ ((rd_T55 t413 0).f0) from ge417_0)
       clear hv417_0 ge417_0 hcc417 hce417
       have qi417 : (0 < t413.length) = True := eq_true (by omega)
       (try rw [show ((0 : Int)).toNat = 0 from rfl] at hx417_0)
       (try rw [show 0 * 3 = 0 from rfl] at hx417_0)
       (try rw [Addr.add_zero'] at hx417_0)
       (try rw [show ((0 : Int)).toNat = 0 from rfl] at hx417_1)
       (try rw [show 0 * 3 = 0 from rfl] at hx417_1)
       (try rw [Addr.add_zero'] at hx417_1)
       (try rw [show ((0 : Int)).toNat = 0 from rfl] at hx417_2)
       (try rw [show 0 * 3 = 0 from rfl] at hx417_2)
       (try rw [Addr.add_zero'] at hx417_2)
       have HR417_0 := Aside0.mk hi417_0
       have HC417_0 := Aside0.mk hl417_0
       clear hi417_0 hl417_0
       replace p417 := eq_true p417
       replace q417 := eq_true q417
       have p418 : 0 ≤ (0 : Int) := (by omega)
       have q418 : 0 < (t413.length : Int) := of_decide_eq_true (by first | (with_reducible assumption) | assumption)
       obtain ⟨ad418, A418_0, c418_0, e418, hx418_0, hx418_1, hx418_2, hl418_0, hi418_0⟩ := at_T55 (Kd.S_reads' HO416.out).2.2 0 p418 q418
       obtain rfl : ad417 = ad418 := (by injection e418)
       obtain ⟨ce418, hce418, hMe418, hcc418⟩ := Kd.S_get HO416.out z55 0 p418 (by first | exact q418 | exact of_decide_eq_true (by first | (with_reducible assumption) | assumption) | (have e_ := (Kd.S_reads' HO416.out).1; omega))
       obtain ⟨ve418_0, rfl, ge418_0⟩ := k55_openM hMe418
       have hv418_0 := hcc418 0 _ rfl
       rw [Nat.add_zero] at hv418_0
       replace hv418_0 := Option.some.inj (hv418_0.symm.trans hx418_0)
       rw [hv418_0] at ge418_0
       have HL418_0 := Aside0.mk (show Kd.R k57 57 _ _ _ _ ((rd_T55 t413 0).f0) from ge418_0)
       clear hv418_0 ge418_0 hcc418 hce418
       have qi418 : (0 < t413.length) = True := eq_true (by omega)
       (try rw [show ((0 : Int)).toNat = 0 from rfl] at hx418_0)
       (try rw [show 0 * 3 = 0 from rfl] at hx418_0)
       (try rw [Addr.add_zero'] at hx418_0)
       (try rw [show ((0 : Int)).toNat = 0 from rfl] at hx418_1)
       (try rw [show 0 * 3 = 0 from rfl] at hx418_1)
       (try rw [Addr.add_zero'] at hx418_1)
       (try rw [show ((0 : Int)).toNat = 0 from rfl] at hx418_2)
       (try rw [show 0 * 3 = 0 from rfl] at hx418_2)
       (try rw [Addr.add_zero'] at hx418_2)
       have HR418_0 := Aside0.mk hi418_0
       have HC418_0 := Aside0.mk hl418_0
       clear hi418_0 hl418_0
       replace p418 := eq_true p418
       replace q418 := eq_true q418
       have ea_ := Option.some.inj (hx417_0.symm.trans hx418_0)
       injection ea_ with ea_ en_ ec_
       subst ea_
       subst ec_
       clear en_
       have p419 : 0 ≤ (0 : Int) := (by omega)
       have q419 : 0 < (t413.length : Int) := of_decide_eq_true (by first | (with_reducible assumption) | assumption)
       obtain ⟨ad419, A419_0, c419_0, e419, hx419_0, hx419_1, hx419_2, hl419_0, hi419_0⟩ := at_T55 (Kd.S_reads' HO416.out).2.2 0 p419 q419
       obtain rfl : ad417 = ad419 := (by injection e419)
       obtain ⟨ce419, hce419, hMe419, hcc419⟩ := Kd.S_get HO416.out z55 0 p419 (by first | exact q419 | exact of_decide_eq_true (by first | (with_reducible assumption) | assumption) | (have e_ := (Kd.S_reads' HO416.out).1; omega))
       obtain ⟨ve419_0, rfl, ge419_0⟩ := k55_openM hMe419
       have hv419_0 := hcc419 0 _ rfl
       rw [Nat.add_zero] at hv419_0
       replace hv419_0 := Option.some.inj (hv419_0.symm.trans hx419_0)
       rw [hv419_0] at ge419_0
       have HL419_0 := Aside0.mk (show Kd.R k57 57 _ _ _ _ ((rd_T55 t413 0).f0) from ge419_0)
       clear hv419_0 ge419_0 hcc419 hce419
       have qi419 : (0 < t413.length) = True := eq_true (by omega)
       (try rw [show ((0 : Int)).toNat = 0 from rfl] at hx419_0)
       (try rw [show 0 * 3 = 0 from rfl] at hx419_0)
       (try rw [Addr.add_zero'] at hx419_0)
       (try rw [show ((0 : Int)).toNat = 0 from rfl] at hx419_1)
       (try rw [show 0 * 3 = 0 from rfl] at hx419_1)
       (try rw [Addr.add_zero'] at hx419_1)
       (try rw [show ((0 : Int)).toNat = 0 from rfl] at hx419_2)
       (try rw [show 0 * 3 = 0 from rfl] at hx419_2)
       (try rw [Addr.add_zero'] at hx419_2)
       have HR419_0 := Aside0.mk hi419_0
       have HC419_0 := Aside0.mk hl419_0
       clear hi419_0 hl419_0
       replace p419 := eq_true p419
       replace q419 := eq_true q419
       have ea_ := Option.some.inj (hx417_0.symm.trans hx419_0)
       injection ea_ with ea_ en_ ec_
       subst ea_
       subst ec_
       clear en_
       go_wp2
       repeat (go_quiet (fail); try go_wp2)
       go_meet
       case rel => exact ⟨_, (((((rd_T55 t413 0).f0).length : Int) != (l4.length : Int))), (by first | rfl | (simp; done) | (simp [*]; done)), H', ⟨by first | omega | exact Nat.le_refl _⟩, ⟨by (with_reducible repeat (first | apply Kd.S_alloc | apply Kd.S_drewN | apply Kd.S_drew)); exact HO416.out⟩, ⟨by repeat (first | (with_reducible first | exact HB.out | apply below_alloc | apply pw_below_drewN | apply below_drew1) | exact HB.out)⟩⟩
      ·rw [if_neg c17] at H
       have c17b0 : (((rd_T55 t413 0).f2) == a3) = false := beq_eq_false_iff_ne.mpr c17
       have c17b1 : (((rd_T55 t413 0).f2) != a3) = true := bne_iff_ne.mpr c17
       have H' := Aside0.mk H
       clear H
       obtain ⟨Ao19, co19, eo19⟩ := Kd.S_slice HO416.out
       subst eo19
       have p417 : 0 ≤ (0 : Int) := (by omega)
       have q417 : 0 < (t413.length : Int) := of_decide_eq_true (by first | (with_reducible assumption) | assumption)
       obtain ⟨ad417, A417_0, c417_0, e417, hx417_0, hx417_1, hx417_2, hl417_0, hi417_0⟩ := at_T55 (Kd.S_reads' HO416.out).2.2 0 p417 q417
       cases e417
       obtain ⟨ce417, hce417, hMe417, hcc417⟩ := Kd.S_get HO416.out z55 0 p417 (by first | exact q417 | exact of_decide_eq_true (by first | (with_reducible assumption) | assumption) | (have e_ := (Kd.S_reads' HO416.out).1; omega))
       obtain ⟨ve417_0, rfl, ge417_0⟩ := k55_openM hMe417
       have hv417_0 := hcc417 0 _ rfl
       rw [Nat.add_zero] at hv417_0
       replace hv417_0 := Option.some.inj (hv417_0.symm.trans hx417_0)
       rw [hv417_0] at ge417_0
       have HL417_0 := Aside0.mk (show Kd.R k57 57 _ _ _ _ ((rd_T55 t413 0).f0) from ge417_0)
       clear hv417_0 ge417_0 hcc417 hce417
       have qi417 : (0 < t413.length) = True := eq_true (by omega)
       (try rw [show ((0 : Int)).toNat = 0 from rfl] at hx417_0)
       (try rw [show 0 * 3 = 0 from rfl] at hx417_0)
       (try rw [Addr.add_zero'] at hx417_0)
       (try rw [show ((0 : Int)).toNat = 0 from rfl] at hx417_1)
       (try rw [show 0 * 3 = 0 from rfl] at hx417_1)
       (try rw [Addr.add_zero'] at hx417_1)
       (try rw [show ((0 : Int)).toNat = 0 from rfl] at hx417_2)
       (try rw [show 0 * 3 = 0 from rfl] at hx417_2)
       (try rw [Addr.add_zero'] at hx417_2)
       have HR417_0 := Aside0.mk hi417_0
       have HC417_0 := Aside0.mk hl417_0
       clear hi417_0 hl417_0
       replace p417 := eq_true p417
       replace q417 := eq_true q417
       have p418 : 0 ≤ (0 : Int) := (by omega)
       have q418 : 0 < (t413.length : Int) := of_decide_eq_true (by first | (with_reducible assumption) | assumption)
       obtain ⟨ad418, A418_0, c418_0, e418, hx418_0, hx418_1, hx418_2, hl418_0, hi418_0⟩ := at_T55 (Kd.S_reads' HO416.out).2.2 0 p418 q418
       obtain rfl : ad417 = ad418 := (by injection e418)
       obtain ⟨ce418, hce418, hMe418, hcc418⟩ := Kd.S_get HO416.out z55 0 p418 (by first | exact q418 | exact of_decide_eq_true (by first | (with_reducible assumption) | assumption) | (have e_ := (Kd.S_reads' HO416.out).1; omega))
       obtain ⟨ve418_0, rfl, ge418_0⟩ := k55_openM hMe418
       have hv418_0 := hcc418 0 _ rfl
       rw [Nat.add_zero] at hv418_0
       replace hv418_0 := Option.some.inj (hv418_0.symm.trans hx418_0)
       rw [hv418_0] at ge418_0
       have HL418_0 := Aside0.mk (show Kd.R k57 57 _ _ _ _ ((rd_T55 t413 0).f0) from ge418_0)
       clear hv418_0 ge418_0 hcc418 hce418
       have qi418 : (0 < t413.length) = True := eq_true (by omega)
       (try rw [show ((0 : Int)).toNat = 0 from rfl] at hx418_0)
       (try rw [show 0 * 3 = 0 from rfl] at hx418_0)
       (try rw [Addr.add_zero'] at hx418_0)
       (try rw [show ((0 : Int)).toNat = 0 from rfl] at hx418_1)
       (try rw [show 0 * 3 = 0 from rfl] at hx418_1)
       (try rw [Addr.add_zero'] at hx418_1)
       (try rw [show ((0 : Int)).toNat = 0 from rfl] at hx418_2)
       (try rw [show 0 * 3 = 0 from rfl] at hx418_2)
       (try rw [Addr.add_zero'] at hx418_2)
       have HR418_0 := Aside0.mk hi418_0
       have HC418_0 := Aside0.mk hl418_0
       clear hi418_0 hl418_0
       replace p418 := eq_true p418
       replace q418 := eq_true q418
       have ea_ := Option.some.inj (hx417_0.symm.trans hx418_0)
       injection ea_ with ea_ en_ ec_
       subst ea_
       subst ec_
       clear en_
       go_wp2
       repeat (go_quiet (fail); try go_wp2)
       go_meet
       case rel => exact ⟨_, (true), (by first | rfl | (simp; done) | (simp [*]; done)), H', ⟨by first | omega | exact Nat.le_refl _⟩, ⟨by (with_reducible repeat (first | apply Kd.S_alloc | apply Kd.S_drewN | apply Kd.S_drew)); exact HO416.out⟩, ⟨by repeat (first | (with_reducible first | exact HB.out | apply below_alloc | apply pw_below_drewN | apply below_drew1) | exact HB.out)⟩⟩
     ·rw [if_neg c16] at H
      have c16b0 : (((rd_T55 t413 0).f1) == a2) = false := beq_eq_false_iff_ne.mpr c16
      have c16b1 : (((rd_T55 t413 0).f1) != a2) = true := bne_iff_ne.mpr c16
      have H' := Aside0.mk H
      clear H
      obtain ⟨Ao20, co20, eo20⟩ := Kd.S_slice HO416.out
      subst eo20
      have p417 : 0 ≤ (0 : Int) := (by omega)
      have q417 : 0 < (t413.length : Int) := of_decide_eq_true (by first | (with_reducible assumption) | assumption)
      obtain ⟨ad417, A417_0, c417_0, e417, hx417_0, hx417_1, hx417_2, hl417_0, hi417_0⟩ := at_T55 (Kd.S_reads' HO416.out).2.2 0 p417 q417
      cases e417
      obtain ⟨ce417, hce417, hMe417, hcc417⟩ := Kd.S_get HO416.out z55 0 p417 (by first | exact q417 | exact of_decide_eq_true (by first | (with_reducible assumption) | assumption) | (have e_ := (Kd.S_reads' HO416.out).1; omega))
      obtain ⟨ve417_0, rfl, ge417_0⟩ := k55_openM hMe417
      have hv417_0 := hcc417 0 _ rfl
      rw [Nat.add_zero] at hv417_0
      replace hv417_0 := Option.some.inj (hv417_0.symm.trans hx417_0)
      rw [hv417_0] at ge417_0
      have HL417_0 := Aside0.mk (show Kd.R k57 57 _ _ _ _ ((rd_T55 t413 0).f0) from ge417_0)
      clear hv417_0 ge417_0 hcc417 hce417
      have qi417 : (0 < t413.length) = True := eq_true (by omega)
      (try rw [show ((0 : Int)).toNat = 0 from rfl] at hx417_0)
      (try rw [show 0 * 3 = 0 from rfl] at hx417_0)
      (try rw [Addr.add_zero'] at hx417_0)
      (try rw [show ((0 : Int)).toNat = 0 from rfl] at hx417_1)
      (try rw [show 0 * 3 = 0 from rfl] at hx417_1)
      (try rw [Addr.add_zero'] at hx417_1)
      (try rw [show ((0 : Int)).toNat = 0 from rfl] at hx417_2)
      (try rw [show 0 * 3 = 0 from rfl] at hx417_2)
      (try rw [Addr.add_zero'] at hx417_2)
      have HR417_0 := Aside0.mk hi417_0
      have HC417_0 := Aside0.mk hl417_0
      clear hi417_0 hl417_0
      replace p417 := eq_true p417
      replace q417 := eq_true q417
      go_wp2
      repeat (go_quiet (fail); try go_wp2)
      go_meet
      case rel => exact ⟨_, (true), (by first | rfl | (simp; done) | (simp [*]; done)), H', ⟨by first | omega | exact Nat.le_refl _⟩, ⟨by (with_reducible repeat (first | apply Kd.S_alloc | apply Kd.S_drewN | apply Kd.S_drew)); exact HO416.out⟩, ⟨by repeat (first | (with_reducible first | exact HB.out | apply below_alloc | apply pw_below_drewN | apply below_drew1) | exact HB.out)⟩⟩
    ·rw [if_neg c15] at H
     exact absurd H (by simp)
   ·rw [if_neg c14] at H
    have c14b0 : ((t413.length : Int) == (l1.length : Int)) = false := beq_eq_false_iff_ne.mpr c14
    have c14b1 : ((t413.length : Int) != (l1.length : Int)) = true := bne_iff_ne.mpr c14
    have c14b2 : (t413.length == l1.length) = false := by first | simpa using c14 | (simp at c14 ⊢; omega)
    have H' := Aside0.mk H
    clear H
    obtain ⟨Ao21, co21, eo21⟩ := Kd.S_slice HO416.out
    subst eo21
    go_wp2
    repeat (go_quiet (fail); try go_wp2)
    go_meet
    case rel => exact ⟨_, (true), (by first | rfl | (simp; done) | (simp [*]; done)), H', ⟨by first | omega | exact Nat.le_refl _⟩, ⟨by (with_reducible repeat (first | apply Kd.S_alloc | apply Kd.S_drewN | apply Kd.S_drew)); exact HO416.out⟩, ⟨by repeat (first | (with_reducible first | exact HB.out | apply below_alloc | apply pw_below_drewN | apply below_drew1) | exact HB.out)⟩⟩
  ·rw [if_neg c13] at H
   have c13b0 : (t414 == 0) = false := beq_eq_false_iff_ne.mpr c13
   have c13b1 : (t414 != 0) = true := bne_iff_ne.mpr c13
   (first | rw [c13b0] | (simp only [i64_w, i32_w]; rw [c13b0]) | skip)
   have H' := Aside0.mk H
   clear H
   go_wp2
   repeat (go_quiet (fail); try go_wp2)
   go_meet
   case rel => exact ⟨_, (true), (by first | rfl | (simp; done) | (simp [*]; done)), H', ⟨by first | omega | exact Nat.le_refl _⟩, ⟨by (with_reducible repeat (first | apply Kd.S_alloc | apply Kd.S_drewN | apply Kd.S_drew)); exact HO416.out⟩, ⟨by repeat (first | (with_reducible first | exact HB.out | apply below_alloc | apply pw_below_drewN | apply below_drew1) | exact HB.out)⟩⟩
 case rest =>
  clear HC8
  try clear c1
  try clear p2
  try clear c4
  try clear p4
  try clear q4
  try clear hx4
  try clear qi4
  try clear c5
  try clear c13
  try clear c13b0
  try clear c13b1
  try clear c14
  try clear c14b0
  try clear c14b1
  try clear c14b2
  try clear c15
  try clear c15b0
  try clear c15b1
  try clear c16
  try clear c16b0
  try clear c16b1
  try clear c17
  try clear c17b0
  try clear c17b1
  try clear hx417_0
  try clear hx417_1
  try clear hx417_2
  try clear hx418_0
  try clear hx418_1
  try clear hx418_2
  try clear hx419_0
  try clear hx419_1
  try clear hx419_2
  try clear p417
  try clear p418
  try clear p419
  try clear q417
  try clear q418
  try clear q419
  obtain ⟨kq, x62_7, rfl, HA, HJ7, HO_13, HB⟩ := hcut
  cases kq with
  | zero => exact absurd HA.out (by simp [s20_is.j0])
  | succ kj7 =>
   have H := HA.out
   clear HA
   simp only [s20_is.j0] at H
   by_cases c22 : x62_7 = true
   ·subst c22
    have H1 : (some false) = some r := by rw [if_pos rfl] at H; exact H
    clear H
    have H := H1
    clear H1
    obtain rfl := Option.some.inj H
    go_wp2
    repeat (go_quiet (fail); try go_wp2)
    go_ret
    exact ⟨by first | rfl | (simp [errW_none, errW_some] <;> rfl) | (simp [*, errW_none, errW_some] <;> rfl), by repeat (first | (with_reducible first | exact HB.out | apply below_alloc | apply pw_below_drewN | apply below_drew1) | exact HB.out)⟩
   ·replace c22 := Bool.eq_false_iff.mpr c22
    subst c22
    have H1 : (s20_is.l0 kj7 l4 t413 0) = some r := by rw [if_neg (show ¬ (false = true) by decide)] at H; exact H
    clear H
    have H := H1
    clear H1
    have H' := Aside0.mk H
    clear H
    go_wp2
    repeat (go_quiet (fail); try go_wp2)
    go_loopg [15] kj7 (fun kq v15 w' => ∃ (x15_2 : Int), v15 = .int .i64 x15_2 ∧ Aside0 (s20_is.l0 kq l4 t413 x15_2 = some r) ∧ Aside0 (kq ≤ kj7) ∧ Aside0 (Kd.S k55 55 w' w.heap.size (fun _ => True) v415 t413) ∧ Aside0 (Below w.heap.size w w'))
    case atStart => exact ⟨(0), (by first | rfl | (simp; done) | (simp [*]; done)), H', ⟨Nat.le_refl _⟩, ⟨by (with_reducible repeat (first | apply Kd.S_alloc | apply Kd.S_drewN | apply Kd.S_drew)); exact HO_13.out⟩, ⟨by repeat (first | (with_reducible first | exact HB.out | apply below_alloc | apply pw_below_drewN | apply below_drew1) | exact HB.out)⟩⟩
    case round =>
     clear H'
     try clear c1
     try clear c2
     try clear p2
     try clear c4
     try clear p4
     try clear q4
     try clear hx4
     try clear qi4
     try clear c5
     try clear c13
     try clear c13b0
     try clear c13b1
     try clear c14
     try clear c14b0
     try clear c14b1
     try clear c14b2
     try clear c15
     try clear c15b0
     try clear c15b1
     try clear c16
     try clear c16b0
     try clear c16b1
     try clear c17
     try clear c17b0
     try clear c17b1
     try clear c22
     try clear hx417_0
     try clear hx417_1
     try clear hx417_2
     try clear hx418_0
     try clear hx418_1
     try clear hx418_2
     try clear hx419_0
     try clear hx419_1
     try clear hx419_2
     try clear p2
     try clear p4
     try clear p417
     try clear p418
     try clear p419
     try clear q4
     try clear q417
     try clear q418
     try clear q419
     obtain ⟨x15_2, rfl, HA, HK2, HO_13, HB⟩ := hrel
     cases gk with
     | zero => exact absurd HA.out (by simp [s20_is.l0])
     | succ k2 =>
      have H := HA.out
      clear HA
      simp only [s20_is.l0] at H
      by_cases c23 : x15_2 < (l4.length : Int)
      ·rw [if_pos c23] at H
       have c23b0 : decide (x15_2 < (l4.length : Int)) = true := decide_eq_true c23
       clear c23
       by_cases c24 : 0 < (t413.length : Int)
       ·rw [if_pos c24] at H
        have c24b0 : decide (0 < (t413.length : Int)) = true := decide_eq_true c24
        have c24b1 : decide (0 < t413.length) = true := decide_eq_true (by omega)
        clear c24
        by_cases c25 : 0 ≤ x15_2
        ·rw [if_pos c25] at H
         have c25b0 : decide (0 ≤ x15_2) = true := decide_eq_true c25
         clear c25
         by_cases c26 : x15_2 < (((rd_T55 t413 0).f0).length : Int)
         ·rw [if_pos c26] at H
          have c26b0 : decide (x15_2 < (((rd_T55 t413 0).f0).length : Int)) = true := decide_eq_true c26
          clear c26
          by_cases c27 : ((rd_T57 ((rd_T55 t413 0).f0) x15_2).f0) = (rd l4 x15_2)
          ·rw [if_pos c27] at H
           have c27b0 : (((rd_T57 ((rd_T55 t413 0).f0) x15_2).f0) == (rd l4 x15_2)) = true := beq_iff_eq.mpr c27
           have c27b1 : (((rd_T57 ((rd_T55 t413 0).f0) x15_2).f0) != (rd l4 x15_2)) = false := bne_eq_false_iff_eq.mpr c27
           clear c27
           by_cases c28 : x15_2 < 5
           ·rw [if_pos c28] at H
            have c28b0 : decide (x15_2 < 5) = true := decide_eq_true c28
            clear c28
            by_cases c30 : ((rd_T57 ((rd_T55 t413 0).f0) x15_2).f1) = (bt (⟨#[97, 32, 98, 32, 99]⟩ : ByteArray) x15_2)
            ·rw [if_pos c30] at H
             have c30b0 : (((rd_T57 ((rd_T55 t413 0).f0) x15_2).f1) == (bt (⟨#[97, 32, 98, 32, 99]⟩ : ByteArray) x15_2)) = true := beq_iff_eq.mpr c30
             have c30b1 : (((rd_T57 ((rd_T55 t413 0).f0) x15_2).f1) != (bt (⟨#[97, 32, 98, 32, 99]⟩ : ByteArray) x15_2)) = false := bne_eq_false_iff_eq.mpr c30
             clear c30
             by_cases c31 : ((rd_T57 ((rd_T55 t413 0).f0) x15_2).f3) = x15_2
             ·rw [if_pos c31] at H
              have c31b0 : (((rd_T57 ((rd_T55 t413 0).f0) x15_2).f3) == x15_2) = true := beq_iff_eq.mpr c31
              have c31b1 : (((rd_T57 ((rd_T55 t413 0).f0) x15_2).f3) != x15_2) = false := bne_eq_false_iff_eq.mpr c31
              clear c31
              have H' := Aside0.mk H
              clear H
              obtain ⟨Ao32, co32, eo32⟩ := Kd.S_slice HO_13.out
              subst eo32
              have p420 : 0 ≤ (0 : Int) := (by omega)
              have q420 : 0 < (t413.length : Int) := of_decide_eq_true (by first | (with_reducible assumption) | assumption)
              obtain ⟨ad420, A420_0, c420_0, e420, hx420_0, hx420_1, hx420_2, hl420_0, hi420_0⟩ := at_T55 (Kd.S_reads' HO_13.out).2.2 0 p420 q420
              cases e420
              obtain ⟨ce420, hce420, hMe420, hcc420⟩ := Kd.S_get HO_13.out z55 0 p420 (by first | exact q420 | exact of_decide_eq_true (by first | (with_reducible assumption) | assumption) | (have e_ := (Kd.S_reads' HO_13.out).1; omega))
              obtain ⟨ve420_0, rfl, ge420_0⟩ := k55_openM hMe420
              have hv420_0 := hcc420 0 _ rfl
              rw [Nat.add_zero] at hv420_0
              replace hv420_0 := Option.some.inj (hv420_0.symm.trans hx420_0)
              rw [hv420_0] at ge420_0
              have HL420_0 := Aside0.mk (show Kd.R k57 57 _ _ _ _ ((rd_T55 t413 0).f0) from ge420_0)
              clear hv420_0 ge420_0 hcc420 hce420
              have qi420 : (0 < t413.length) = True := eq_true (by omega)
              (try rw [show ((0 : Int)).toNat = 0 from rfl] at hx420_0)
              (try rw [show 0 * 3 = 0 from rfl] at hx420_0)
              (try rw [Addr.add_zero'] at hx420_0)
              (try rw [show ((0 : Int)).toNat = 0 from rfl] at hx420_1)
              (try rw [show 0 * 3 = 0 from rfl] at hx420_1)
              (try rw [Addr.add_zero'] at hx420_1)
              (try rw [show ((0 : Int)).toNat = 0 from rfl] at hx420_2)
              (try rw [show 0 * 3 = 0 from rfl] at hx420_2)
              (try rw [Addr.add_zero'] at hx420_2)
              have HR420_0 := Aside0.mk hi420_0
              have HC420_0 := Aside0.mk hl420_0
              clear hi420_0 hl420_0
              replace p420 := eq_true p420
              replace q420 := eq_true q420
              have p421 : 0 ≤ (x15_2 : Int) := of_decide_eq_true (by first | (with_reducible assumption) | assumption)
              have q421 : x15_2 < (((rd_T55 t413 0).f0).length : Int) := of_decide_eq_true (by first | (with_reducible assumption) | assumption)
              obtain ⟨ad421, e421, hx421_0, hx421_1, hx421_2, hx421_3⟩ := at_T57 (by repeat (first | (with_reducible exact HR420_0.out) | (with_reducible refine Kd.C_alloc ?_ _) | (with_reducible refine Kd.C_drewN ?_ _) | (with_reducible refine Kd.C_drew ?_) | exact HR420_0.out)) x15_2 p421 q421
              cases e421
              replace p421 := eq_true p421
              replace q421 := eq_true q421
              have p422 : 0 ≤ (x15_2 : Int) := of_decide_eq_true (by first | (with_reducible assumption) | assumption)
              have q422 : x15_2 < (l4.length : Int) := of_decide_eq_true (by first | (with_reducible assumption) | assumption)
              obtain ⟨ad422, e422, hx422_0⟩ := Kd.at_int HR4.out x15_2 p422 q422
              cases e422
              replace hx422_0 := (HB.out.cell (World.block_lt_of_cell? w _ hx422_0)).trans hx422_0
              replace p422 := eq_true p422
              replace q422 := eq_true q422
              have p423 : 0 ≤ (0 : Int) := (by omega)
              have q423 : 0 < (t413.length : Int) := of_decide_eq_true (by first | (with_reducible assumption) | assumption)
              obtain ⟨ad423, A423_0, c423_0, e423, hx423_0, hx423_1, hx423_2, hl423_0, hi423_0⟩ := at_T55 (Kd.S_reads' HO_13.out).2.2 0 p423 q423
              obtain rfl : ad420 = ad423 := (by injection e423)
              obtain ⟨ce423, hce423, hMe423, hcc423⟩ := Kd.S_get HO_13.out z55 0 p423 (by first | exact q423 | exact of_decide_eq_true (by first | (with_reducible assumption) | assumption) | (have e_ := (Kd.S_reads' HO_13.out).1; omega))
              obtain ⟨ve423_0, rfl, ge423_0⟩ := k55_openM hMe423
              have hv423_0 := hcc423 0 _ rfl
              rw [Nat.add_zero] at hv423_0
              replace hv423_0 := Option.some.inj (hv423_0.symm.trans hx423_0)
              rw [hv423_0] at ge423_0
              have HL423_0 := Aside0.mk (show Kd.R k57 57 _ _ _ _ ((rd_T55 t413 0).f0) from ge423_0)
              clear hv423_0 ge423_0 hcc423 hce423
              have qi423 : (0 < t413.length) = True := eq_true (by omega)
              (try rw [show ((0 : Int)).toNat = 0 from rfl] at hx423_0)
              (try rw [show 0 * 3 = 0 from rfl] at hx423_0)
              (try rw [Addr.add_zero'] at hx423_0)
              (try rw [show ((0 : Int)).toNat = 0 from rfl] at hx423_1)
              (try rw [show 0 * 3 = 0 from rfl] at hx423_1)
              (try rw [Addr.add_zero'] at hx423_1)
              (try rw [show ((0 : Int)).toNat = 0 from rfl] at hx423_2)
              (try rw [show 0 * 3 = 0 from rfl] at hx423_2)
              (try rw [Addr.add_zero'] at hx423_2)
              have HR423_0 := Aside0.mk hi423_0
              have HC423_0 := Aside0.mk hl423_0
              clear hi423_0 hl423_0
              replace p423 := eq_true p423
              replace q423 := eq_true q423
              have ea_ := Option.some.inj (hx420_0.symm.trans hx423_0)
              injection ea_ with ea_ en_ ec_
              subst ea_
              subst ec_
              clear en_
              have p424 : 0 ≤ (x15_2 : Int) := of_decide_eq_true (by first | (with_reducible assumption) | assumption)
              have q424 : x15_2 < (((rd_T55 t413 0).f0).length : Int) := of_decide_eq_true (by first | (with_reducible assumption) | assumption)
              obtain ⟨ad424, e424, hx424_0, hx424_1, hx424_2, hx424_3⟩ := at_T57 (by repeat (first | (with_reducible exact HR423_0.out) | (with_reducible refine Kd.C_alloc ?_ _) | (with_reducible refine Kd.C_drewN ?_ _) | (with_reducible refine Kd.C_drew ?_) | exact HR423_0.out)) x15_2 p424 q424
              cases e424
              replace p424 := eq_true p424
              replace q424 := eq_true q424
              have p29 : 0 ≤ (x15_2 : Int) := of_decide_eq_true (by first | (with_reducible assumption) | assumption)
              have q29 : x15_2 < (5 : Int) := of_decide_eq_true (by first | (with_reducible assumption) | assumption)
              have hx29 := bt_at (⟨#[97, 32, 98, 32, 99]⟩ : ByteArray) x15_2
              replace p29 := eq_true p29
              replace q29 := eq_true q29
              have p425 : 0 ≤ (0 : Int) := (by omega)
              have q425 : 0 < (t413.length : Int) := of_decide_eq_true (by first | (with_reducible assumption) | assumption)
              obtain ⟨ad425, A425_0, c425_0, e425, hx425_0, hx425_1, hx425_2, hl425_0, hi425_0⟩ := at_T55 (Kd.S_reads' HO_13.out).2.2 0 p425 q425
              obtain rfl : ad420 = ad425 := (by injection e425)
              obtain ⟨ce425, hce425, hMe425, hcc425⟩ := Kd.S_get HO_13.out z55 0 p425 (by first | exact q425 | exact of_decide_eq_true (by first | (with_reducible assumption) | assumption) | (have e_ := (Kd.S_reads' HO_13.out).1; omega))
              obtain ⟨ve425_0, rfl, ge425_0⟩ := k55_openM hMe425
              have hv425_0 := hcc425 0 _ rfl
              rw [Nat.add_zero] at hv425_0
              replace hv425_0 := Option.some.inj (hv425_0.symm.trans hx425_0)
              rw [hv425_0] at ge425_0
              have HL425_0 := Aside0.mk (show Kd.R k57 57 _ _ _ _ ((rd_T55 t413 0).f0) from ge425_0)
              clear hv425_0 ge425_0 hcc425 hce425
              have qi425 : (0 < t413.length) = True := eq_true (by omega)
              (try rw [show ((0 : Int)).toNat = 0 from rfl] at hx425_0)
              (try rw [show 0 * 3 = 0 from rfl] at hx425_0)
              (try rw [Addr.add_zero'] at hx425_0)
              (try rw [show ((0 : Int)).toNat = 0 from rfl] at hx425_1)
              (try rw [show 0 * 3 = 0 from rfl] at hx425_1)
              (try rw [Addr.add_zero'] at hx425_1)
              (try rw [show ((0 : Int)).toNat = 0 from rfl] at hx425_2)
              (try rw [show 0 * 3 = 0 from rfl] at hx425_2)
              (try rw [Addr.add_zero'] at hx425_2)
              have HR425_0 := Aside0.mk hi425_0
              have HC425_0 := Aside0.mk hl425_0
              clear hi425_0 hl425_0
              replace p425 := eq_true p425
              replace q425 := eq_true q425
              have ea_ := Option.some.inj (hx420_0.symm.trans hx425_0)
              injection ea_ with ea_ en_ ec_
              subst ea_
              subst ec_
              clear en_
              have p426 : 0 ≤ (x15_2 : Int) := of_decide_eq_true (by first | (with_reducible assumption) | assumption)
              have q426 : x15_2 < (((rd_T55 t413 0).f0).length : Int) := of_decide_eq_true (by first | (with_reducible assumption) | assumption)
              obtain ⟨ad426, e426, hx426_0, hx426_1, hx426_2, hx426_3⟩ := at_T57 (by repeat (first | (with_reducible exact HR425_0.out) | (with_reducible refine Kd.C_alloc ?_ _) | (with_reducible refine Kd.C_drewN ?_ _) | (with_reducible refine Kd.C_drew ?_) | exact HR425_0.out)) x15_2 p426 q426
              cases e426
              replace p426 := eq_true p426
              replace q426 := eq_true q426
              go_wp2
              repeat (go_quiet (fail); try go_wp2)
              go_roundg k2
              case measure => have := HJ7.out; have := HK2.out; omega
              case rel => exact ⟨(wrap64 (x15_2 + 1)), (by first | rfl | (simp; done) | (simp [*]; done)), H', ⟨by have := HJ7.out; have := HK2.out; omega⟩, ⟨by (with_reducible repeat (first | apply Kd.S_alloc | apply Kd.S_drewN | apply Kd.S_drew)); exact HO_13.out⟩, ⟨by repeat (first | (with_reducible first | exact HB.out | apply below_alloc | apply pw_below_drewN | apply below_drew1) | exact HB.out)⟩⟩
             ·rw [if_neg c31] at H
              have c31b0 : (((rd_T57 ((rd_T55 t413 0).f0) x15_2).f3) == x15_2) = false := beq_eq_false_iff_ne.mpr c31
              have c31b1 : (((rd_T57 ((rd_T55 t413 0).f0) x15_2).f3) != x15_2) = true := bne_iff_ne.mpr c31
              obtain rfl := Option.some.inj H
              obtain ⟨Ao33, co33, eo33⟩ := Kd.S_slice HO_13.out
              subst eo33
              have p420 : 0 ≤ (0 : Int) := (by omega)
              have q420 : 0 < (t413.length : Int) := of_decide_eq_true (by first | (with_reducible assumption) | assumption)
              obtain ⟨ad420, A420_0, c420_0, e420, hx420_0, hx420_1, hx420_2, hl420_0, hi420_0⟩ := at_T55 (Kd.S_reads' HO_13.out).2.2 0 p420 q420
              cases e420
              obtain ⟨ce420, hce420, hMe420, hcc420⟩ := Kd.S_get HO_13.out z55 0 p420 (by first | exact q420 | exact of_decide_eq_true (by first | (with_reducible assumption) | assumption) | (have e_ := (Kd.S_reads' HO_13.out).1; omega))
              obtain ⟨ve420_0, rfl, ge420_0⟩ := k55_openM hMe420
              have hv420_0 := hcc420 0 _ rfl
              rw [Nat.add_zero] at hv420_0
              replace hv420_0 := Option.some.inj (hv420_0.symm.trans hx420_0)
              rw [hv420_0] at ge420_0
              have HL420_0 := Aside0.mk (show Kd.R k57 57 _ _ _ _ ((rd_T55 t413 0).f0) from ge420_0)
              clear hv420_0 ge420_0 hcc420 hce420
              have qi420 : (0 < t413.length) = True := eq_true (by omega)
              (try rw [show ((0 : Int)).toNat = 0 from rfl] at hx420_0)
              (try rw [show 0 * 3 = 0 from rfl] at hx420_0)
              (try rw [Addr.add_zero'] at hx420_0)
              (try rw [show ((0 : Int)).toNat = 0 from rfl] at hx420_1)
              (try rw [show 0 * 3 = 0 from rfl] at hx420_1)
              (try rw [Addr.add_zero'] at hx420_1)
              (try rw [show ((0 : Int)).toNat = 0 from rfl] at hx420_2)
              (try rw [show 0 * 3 = 0 from rfl] at hx420_2)
              (try rw [Addr.add_zero'] at hx420_2)
              have HR420_0 := Aside0.mk hi420_0
              have HC420_0 := Aside0.mk hl420_0
              clear hi420_0 hl420_0
              replace p420 := eq_true p420
              replace q420 := eq_true q420
              have p421 : 0 ≤ (x15_2 : Int) := of_decide_eq_true (by first | (with_reducible assumption) | assumption)
              have q421 : x15_2 < (((rd_T55 t413 0).f0).length : Int) := of_decide_eq_true (by first | (with_reducible assumption) | assumption)
              obtain ⟨ad421, e421, hx421_0, hx421_1, hx421_2, hx421_3⟩ := at_T57 (by repeat (first | (with_reducible exact HR420_0.out) | (with_reducible refine Kd.C_alloc ?_ _) | (with_reducible refine Kd.C_drewN ?_ _) | (with_reducible refine Kd.C_drew ?_) | exact HR420_0.out)) x15_2 p421 q421
              cases e421
              replace p421 := eq_true p421
              replace q421 := eq_true q421
              have p422 : 0 ≤ (x15_2 : Int) := of_decide_eq_true (by first | (with_reducible assumption) | assumption)
              have q422 : x15_2 < (l4.length : Int) := of_decide_eq_true (by first | (with_reducible assumption) | assumption)
              obtain ⟨ad422, e422, hx422_0⟩ := Kd.at_int HR4.out x15_2 p422 q422
              cases e422
              replace hx422_0 := (HB.out.cell (World.block_lt_of_cell? w _ hx422_0)).trans hx422_0
              replace p422 := eq_true p422
              replace q422 := eq_true q422
              have p423 : 0 ≤ (0 : Int) := (by omega)
              have q423 : 0 < (t413.length : Int) := of_decide_eq_true (by first | (with_reducible assumption) | assumption)
              obtain ⟨ad423, A423_0, c423_0, e423, hx423_0, hx423_1, hx423_2, hl423_0, hi423_0⟩ := at_T55 (Kd.S_reads' HO_13.out).2.2 0 p423 q423
              obtain rfl : ad420 = ad423 := (by injection e423)
              obtain ⟨ce423, hce423, hMe423, hcc423⟩ := Kd.S_get HO_13.out z55 0 p423 (by first | exact q423 | exact of_decide_eq_true (by first | (with_reducible assumption) | assumption) | (have e_ := (Kd.S_reads' HO_13.out).1; omega))
              obtain ⟨ve423_0, rfl, ge423_0⟩ := k55_openM hMe423
              have hv423_0 := hcc423 0 _ rfl
              rw [Nat.add_zero] at hv423_0
              replace hv423_0 := Option.some.inj (hv423_0.symm.trans hx423_0)
              rw [hv423_0] at ge423_0
              have HL423_0 := Aside0.mk (show Kd.R k57 57 _ _ _ _ ((rd_T55 t413 0).f0) from ge423_0)
              clear hv423_0 ge423_0 hcc423 hce423
              have qi423 : (0 < t413.length) = True := eq_true (by omega)
              (try rw [show ((0 : Int)).toNat = 0 from rfl] at hx423_0)
              (try rw [show 0 * 3 = 0 from rfl] at hx423_0)
              (try rw [Addr.add_zero'] at hx423_0)
              (try rw [show ((0 : Int)).toNat = 0 from rfl] at hx423_1)
              (try rw [show 0 * 3 = 0 from rfl] at hx423_1)
              (try rw [Addr.add_zero'] at hx423_1)
              (try rw [show ((0 : Int)).toNat = 0 from rfl] at hx423_2)
              (try rw [show 0 * 3 = 0 from rfl] at hx423_2)
              (try rw [Addr.add_zero'] at hx423_2)
              have HR423_0 := Aside0.mk hi423_0
              have HC423_0 := Aside0.mk hl423_0
              clear hi423_0 hl423_0
              replace p423 := eq_true p423
              replace q423 := eq_true q423
              have ea_ := Option.some.inj (hx420_0.symm.trans hx423_0)
              injection ea_ with ea_ en_ ec_
              subst ea_
              subst ec_
              clear en_
              have p424 : 0 ≤ (x15_2 : Int) := of_decide_eq_true (by first | (with_reducible assumption) | assumption)
              have q424 : x15_2 < (((rd_T55 t413 0).f0).length : Int) := of_decide_eq_true (by first | (with_reducible assumption) | assumption)
              obtain ⟨ad424, e424, hx424_0, hx424_1, hx424_2, hx424_3⟩ := at_T57 (by repeat (first | (with_reducible exact HR423_0.out) | (with_reducible refine Kd.C_alloc ?_ _) | (with_reducible refine Kd.C_drewN ?_ _) | (with_reducible refine Kd.C_drew ?_) | exact HR423_0.out)) x15_2 p424 q424
              cases e424
              replace p424 := eq_true p424
              replace q424 := eq_true q424
              have p29 : 0 ≤ (x15_2 : Int) := of_decide_eq_true (by first | (with_reducible assumption) | assumption)
              have q29 : x15_2 < (5 : Int) := of_decide_eq_true (by first | (with_reducible assumption) | assumption)
              have hx29 := bt_at (⟨#[97, 32, 98, 32, 99]⟩ : ByteArray) x15_2
              replace p29 := eq_true p29
              replace q29 := eq_true q29
              have p425 : 0 ≤ (0 : Int) := (by omega)
              have q425 : 0 < (t413.length : Int) := of_decide_eq_true (by first | (with_reducible assumption) | assumption)
              obtain ⟨ad425, A425_0, c425_0, e425, hx425_0, hx425_1, hx425_2, hl425_0, hi425_0⟩ := at_T55 (Kd.S_reads' HO_13.out).2.2 0 p425 q425
              obtain rfl : ad420 = ad425 := (by injection e425)
              obtain ⟨ce425, hce425, hMe425, hcc425⟩ := Kd.S_get HO_13.out z55 0 p425 (by first | exact q425 | exact of_decide_eq_true (by first | (with_reducible assumption) | assumption) | (have e_ := (Kd.S_reads' HO_13.out).1; omega))
              obtain ⟨ve425_0, rfl, ge425_0⟩ := k55_openM hMe425
              have hv425_0 := hcc425 0 _ rfl
              rw [Nat.add_zero] at hv425_0
              replace hv425_0 := Option.some.inj (hv425_0.symm.trans hx425_0)
              rw [hv425_0] at ge425_0
              have HL425_0 := Aside0.mk (show Kd.R k57 57 _ _ _ _ ((rd_T55 t413 0).f0) from ge425_0)
              clear hv425_0 ge425_0 hcc425 hce425
              have qi425 : (0 < t413.length) = True := eq_true (by omega)
              (try rw [show ((0 : Int)).toNat = 0 from rfl] at hx425_0)
              (try rw [show 0 * 3 = 0 from rfl] at hx425_0)
              (try rw [Addr.add_zero'] at hx425_0)
              (try rw [show ((0 : Int)).toNat = 0 from rfl] at hx425_1)
              (try rw [show 0 * 3 = 0 from rfl] at hx425_1)
              (try rw [Addr.add_zero'] at hx425_1)
              (try rw [show ((0 : Int)).toNat = 0 from rfl] at hx425_2)
              (try rw [show 0 * 3 = 0 from rfl] at hx425_2)
              (try rw [Addr.add_zero'] at hx425_2)
              have HR425_0 := Aside0.mk hi425_0
              have HC425_0 := Aside0.mk hl425_0
              clear hi425_0 hl425_0
              replace p425 := eq_true p425
              replace q425 := eq_true q425
              have ea_ := Option.some.inj (hx420_0.symm.trans hx425_0)
              injection ea_ with ea_ en_ ec_
              subst ea_
              subst ec_
              clear en_
              have p426 : 0 ≤ (x15_2 : Int) := of_decide_eq_true (by first | (with_reducible assumption) | assumption)
              have q426 : x15_2 < (((rd_T55 t413 0).f0).length : Int) := of_decide_eq_true (by first | (with_reducible assumption) | assumption)
              obtain ⟨ad426, e426, hx426_0, hx426_1, hx426_2, hx426_3⟩ := at_T57 (by repeat (first | (with_reducible exact HR425_0.out) | (with_reducible refine Kd.C_alloc ?_ _) | (with_reducible refine Kd.C_drewN ?_ _) | (with_reducible refine Kd.C_drew ?_) | exact HR425_0.out)) x15_2 p426 q426
              cases e426
              replace p426 := eq_true p426
              replace q426 := eq_true q426
              go_wp2
              repeat (go_quiet (fail); try go_wp2)
              go_ret
              exact ⟨by first | rfl | (simp [errW_none, errW_some] <;> rfl) | (simp [*, errW_none, errW_some] <;> rfl), by repeat (first | (with_reducible first | exact HB.out | apply below_alloc | apply pw_below_drewN | apply below_drew1) | exact HB.out)⟩
            ·rw [if_neg c30] at H
             have c30b0 : (((rd_T57 ((rd_T55 t413 0).f0) x15_2).f1) == (bt (⟨#[97, 32, 98, 32, 99]⟩ : ByteArray) x15_2)) = false := beq_eq_false_iff_ne.mpr c30
             have c30b1 : (((rd_T57 ((rd_T55 t413 0).f0) x15_2).f1) != (bt (⟨#[97, 32, 98, 32, 99]⟩ : ByteArray) x15_2)) = true := bne_iff_ne.mpr c30
             obtain rfl := Option.some.inj H
             obtain ⟨Ao34, co34, eo34⟩ := Kd.S_slice HO_13.out
             subst eo34
             have p420 : 0 ≤ (0 : Int) := (by omega)
             have q420 : 0 < (t413.length : Int) := of_decide_eq_true (by first | (with_reducible assumption) | assumption)
             obtain ⟨ad420, A420_0, c420_0, e420, hx420_0, hx420_1, hx420_2, hl420_0, hi420_0⟩ := at_T55 (Kd.S_reads' HO_13.out).2.2 0 p420 q420
             cases e420
             obtain ⟨ce420, hce420, hMe420, hcc420⟩ := Kd.S_get HO_13.out z55 0 p420 (by first | exact q420 | exact of_decide_eq_true (by first | (with_reducible assumption) | assumption) | (have e_ := (Kd.S_reads' HO_13.out).1; omega))
             obtain ⟨ve420_0, rfl, ge420_0⟩ := k55_openM hMe420
             have hv420_0 := hcc420 0 _ rfl
             rw [Nat.add_zero] at hv420_0
             replace hv420_0 := Option.some.inj (hv420_0.symm.trans hx420_0)
             rw [hv420_0] at ge420_0
             have HL420_0 := Aside0.mk (show Kd.R k57 57 _ _ _ _ ((rd_T55 t413 0).f0) from ge420_0)
             clear hv420_0 ge420_0 hcc420 hce420
             have qi420 : (0 < t413.length) = True := eq_true (by omega)
             (try rw [show ((0 : Int)).toNat = 0 from rfl] at hx420_0)
             (try rw [show 0 * 3 = 0 from rfl] at hx420_0)
             (try rw [Addr.add_zero'] at hx420_0)
             (try rw [show ((0 : Int)).toNat = 0 from rfl] at hx420_1)
             (try rw [show 0 * 3 = 0 from rfl] at hx420_1)
             (try rw [Addr.add_zero'] at hx420_1)
             (try rw [show ((0 : Int)).toNat = 0 from rfl] at hx420_2)
             (try rw [show 0 * 3 = 0 from rfl] at hx420_2)
             (try rw [Addr.add_zero'] at hx420_2)
             have HR420_0 := Aside0.mk hi420_0
             have HC420_0 := Aside0.mk hl420_0
             clear hi420_0 hl420_0
             replace p420 := eq_true p420
             replace q420 := eq_true q420
             have p421 : 0 ≤ (x15_2 : Int) := of_decide_eq_true (by first | (with_reducible assumption) | assumption)
             have q421 : x15_2 < (((rd_T55 t413 0).f0).length : Int) := of_decide_eq_true (by first | (with_reducible assumption) | assumption)
             obtain ⟨ad421, e421, hx421_0, hx421_1, hx421_2, hx421_3⟩ := at_T57 (by repeat (first | (with_reducible exact HR420_0.out) | (with_reducible refine Kd.C_alloc ?_ _) | (with_reducible refine Kd.C_drewN ?_ _) | (with_reducible refine Kd.C_drew ?_) | exact HR420_0.out)) x15_2 p421 q421
             cases e421
             replace p421 := eq_true p421
             replace q421 := eq_true q421
             have p422 : 0 ≤ (x15_2 : Int) := of_decide_eq_true (by first | (with_reducible assumption) | assumption)
             have q422 : x15_2 < (l4.length : Int) := of_decide_eq_true (by first | (with_reducible assumption) | assumption)
             obtain ⟨ad422, e422, hx422_0⟩ := Kd.at_int HR4.out x15_2 p422 q422
             cases e422
             replace hx422_0 := (HB.out.cell (World.block_lt_of_cell? w _ hx422_0)).trans hx422_0
             replace p422 := eq_true p422
             replace q422 := eq_true q422
             have p423 : 0 ≤ (0 : Int) := (by omega)
             have q423 : 0 < (t413.length : Int) := of_decide_eq_true (by first | (with_reducible assumption) | assumption)
             obtain ⟨ad423, A423_0, c423_0, e423, hx423_0, hx423_1, hx423_2, hl423_0, hi423_0⟩ := at_T55 (Kd.S_reads' HO_13.out).2.2 0 p423 q423
             obtain rfl : ad420 = ad423 := (by injection e423)
             obtain ⟨ce423, hce423, hMe423, hcc423⟩ := Kd.S_get HO_13.out z55 0 p423 (by first | exact q423 | exact of_decide_eq_true (by first | (with_reducible assumption) | assumption) | (have e_ := (Kd.S_reads' HO_13.out).1; omega))
             obtain ⟨ve423_0, rfl, ge423_0⟩ := k55_openM hMe423
             have hv423_0 := hcc423 0 _ rfl
             rw [Nat.add_zero] at hv423_0
             replace hv423_0 := Option.some.inj (hv423_0.symm.trans hx423_0)
             rw [hv423_0] at ge423_0
             have HL423_0 := Aside0.mk (show Kd.R k57 57 _ _ _ _ ((rd_T55 t413 0).f0) from ge423_0)
             clear hv423_0 ge423_0 hcc423 hce423
             have qi423 : (0 < t413.length) = True := eq_true (by omega)
             (try rw [show ((0 : Int)).toNat = 0 from rfl] at hx423_0)
             (try rw [show 0 * 3 = 0 from rfl] at hx423_0)
             (try rw [Addr.add_zero'] at hx423_0)
             (try rw [show ((0 : Int)).toNat = 0 from rfl] at hx423_1)
             (try rw [show 0 * 3 = 0 from rfl] at hx423_1)
             (try rw [Addr.add_zero'] at hx423_1)
             (try rw [show ((0 : Int)).toNat = 0 from rfl] at hx423_2)
             (try rw [show 0 * 3 = 0 from rfl] at hx423_2)
             (try rw [Addr.add_zero'] at hx423_2)
             have HR423_0 := Aside0.mk hi423_0
             have HC423_0 := Aside0.mk hl423_0
             clear hi423_0 hl423_0
             replace p423 := eq_true p423
             replace q423 := eq_true q423
             have ea_ := Option.some.inj (hx420_0.symm.trans hx423_0)
             injection ea_ with ea_ en_ ec_
             subst ea_
             subst ec_
             clear en_
             have p424 : 0 ≤ (x15_2 : Int) := of_decide_eq_true (by first | (with_reducible assumption) | assumption)
             have q424 : x15_2 < (((rd_T55 t413 0).f0).length : Int) := of_decide_eq_true (by first | (with_reducible assumption) | assumption)
             obtain ⟨ad424, e424, hx424_0, hx424_1, hx424_2, hx424_3⟩ := at_T57 (by repeat (first | (with_reducible exact HR423_0.out) | (with_reducible refine Kd.C_alloc ?_ _) | (with_reducible refine Kd.C_drewN ?_ _) | (with_reducible refine Kd.C_drew ?_) | exact HR423_0.out)) x15_2 p424 q424
             cases e424
             replace p424 := eq_true p424
             replace q424 := eq_true q424
             have p29 : 0 ≤ (x15_2 : Int) := of_decide_eq_true (by first | (with_reducible assumption) | assumption)
             have q29 : x15_2 < (5 : Int) := of_decide_eq_true (by first | (with_reducible assumption) | assumption)
             have hx29 := bt_at (⟨#[97, 32, 98, 32, 99]⟩ : ByteArray) x15_2
             replace p29 := eq_true p29
             replace q29 := eq_true q29
             go_wp2
             repeat (go_quiet (fail); try go_wp2)
             go_ret
             exact ⟨by first | rfl | (simp [errW_none, errW_some] <;> rfl) | (simp [*, errW_none, errW_some] <;> rfl), by repeat (first | (with_reducible first | exact HB.out | apply below_alloc | apply pw_below_drewN | apply below_drew1) | exact HB.out)⟩
           ·rw [if_neg c28] at H
            exact absurd H (by simp)
          ·rw [if_neg c27] at H
           have c27b0 : (((rd_T57 ((rd_T55 t413 0).f0) x15_2).f0) == (rd l4 x15_2)) = false := beq_eq_false_iff_ne.mpr c27
           have c27b1 : (((rd_T57 ((rd_T55 t413 0).f0) x15_2).f0) != (rd l4 x15_2)) = true := bne_iff_ne.mpr c27
           obtain rfl := Option.some.inj H
           obtain ⟨Ao35, co35, eo35⟩ := Kd.S_slice HO_13.out
           subst eo35
           have p420 : 0 ≤ (0 : Int) := (by omega)
           have q420 : 0 < (t413.length : Int) := of_decide_eq_true (by first | (with_reducible assumption) | assumption)
           obtain ⟨ad420, A420_0, c420_0, e420, hx420_0, hx420_1, hx420_2, hl420_0, hi420_0⟩ := at_T55 (Kd.S_reads' HO_13.out).2.2 0 p420 q420
           cases e420
           obtain ⟨ce420, hce420, hMe420, hcc420⟩ := Kd.S_get HO_13.out z55 0 p420 (by first | exact q420 | exact of_decide_eq_true (by first | (with_reducible assumption) | assumption) | (have e_ := (Kd.S_reads' HO_13.out).1; omega))
           obtain ⟨ve420_0, rfl, ge420_0⟩ := k55_openM hMe420
           have hv420_0 := hcc420 0 _ rfl
           rw [Nat.add_zero] at hv420_0
           replace hv420_0 := Option.some.inj (hv420_0.symm.trans hx420_0)
           rw [hv420_0] at ge420_0
           have HL420_0 := Aside0.mk (show Kd.R k57 57 _ _ _ _ ((rd_T55 t413 0).f0) from ge420_0)
           clear hv420_0 ge420_0 hcc420 hce420
           have qi420 : (0 < t413.length) = True := eq_true (by omega)
           (try rw [show ((0 : Int)).toNat = 0 from rfl] at hx420_0)
           (try rw [show 0 * 3 = 0 from rfl] at hx420_0)
           (try rw [Addr.add_zero'] at hx420_0)
           (try rw [show ((0 : Int)).toNat = 0 from rfl] at hx420_1)
           (try rw [show 0 * 3 = 0 from rfl] at hx420_1)
           (try rw [Addr.add_zero'] at hx420_1)
           (try rw [show ((0 : Int)).toNat = 0 from rfl] at hx420_2)
           (try rw [show 0 * 3 = 0 from rfl] at hx420_2)
           (try rw [Addr.add_zero'] at hx420_2)
           have HR420_0 := Aside0.mk hi420_0
           have HC420_0 := Aside0.mk hl420_0
           clear hi420_0 hl420_0
           replace p420 := eq_true p420
           replace q420 := eq_true q420
           have p421 : 0 ≤ (x15_2 : Int) := of_decide_eq_true (by first | (with_reducible assumption) | assumption)
           have q421 : x15_2 < (((rd_T55 t413 0).f0).length : Int) := of_decide_eq_true (by first | (with_reducible assumption) | assumption)
           obtain ⟨ad421, e421, hx421_0, hx421_1, hx421_2, hx421_3⟩ := at_T57 (by repeat (first | (with_reducible exact HR420_0.out) | (with_reducible refine Kd.C_alloc ?_ _) | (with_reducible refine Kd.C_drewN ?_ _) | (with_reducible refine Kd.C_drew ?_) | exact HR420_0.out)) x15_2 p421 q421
           cases e421
           replace p421 := eq_true p421
           replace q421 := eq_true q421
           have p422 : 0 ≤ (x15_2 : Int) := of_decide_eq_true (by first | (with_reducible assumption) | assumption)
           have q422 : x15_2 < (l4.length : Int) := of_decide_eq_true (by first | (with_reducible assumption) | assumption)
           obtain ⟨ad422, e422, hx422_0⟩ := Kd.at_int HR4.out x15_2 p422 q422
           cases e422
           replace hx422_0 := (HB.out.cell (World.block_lt_of_cell? w _ hx422_0)).trans hx422_0
           replace p422 := eq_true p422
           replace q422 := eq_true q422
           go_wp2
           repeat (go_quiet (fail); try go_wp2)
           go_ret
           exact ⟨by first | rfl | (simp [errW_none, errW_some] <;> rfl) | (simp [*, errW_none, errW_some] <;> rfl), by repeat (first | (with_reducible first | exact HB.out | apply below_alloc | apply pw_below_drewN | apply below_drew1) | exact HB.out)⟩
         ·rw [if_neg c26] at H
          exact absurd H (by simp)
        ·rw [if_neg c25] at H
         exact absurd H (by simp)
       ·rw [if_neg c24] at H
        exact absurd H (by simp)
      ·rw [if_neg c23] at H
       have c23b0 : decide (x15_2 < (l4.length : Int)) = false := decide_eq_false c23
       clear c23
       obtain rfl := Option.some.inj H
       go_wp2
       repeat (go_quiet (fail); try go_wp2)
       go_ret
       exact ⟨by first | rfl | (simp [errW_none, errW_some] <;> rfl) | (simp [*, errW_none, errW_some] <;> rfl), by repeat (first | (with_reducible first | exact HB.out | apply below_alloc | apply pw_below_drewN | apply below_drew1) | exact HB.out)⟩
end Go.Proofs.Ytbddfnmhhmkfkaa.Pr
namespace Go.Proofs.Ytbddfnmhhmkfkaa.Pr
open Go.RowKit Go.Proofs.YtbddfnmhhmkfkaaW.PrintWords Go.Proofs.YtbddfnmhhmkfkaaW.PrintLast Go.Proofs.YtbddfnmhhmkfkaaW.PrintMore
set_option linter.unusedVariables false
set_option linter.unusedSimpArgs false
def intsV (xs : List Int) : List Value := xs.map fun n => .int .i64 n
theorem lit_C (w : World) (xs : List Int) (h : xs.length ≤ 1000) : Kd.C (Kd.int .i64) (w.alloc (.cells (intsV xs).toArray 3)) (some ⟨w.heap.size, 0, none⟩) xs.length xs := by
 refine ⟨rfl, by show xs.length ≤ 9223372036854775807; omega, fun _ => ⟨_, rfl, fun i p hp => ⟨[.int .i64 p], rfl, rfl, fun j u hj => ?_⟩⟩⟩
 have hj0 : j = 0 := by
  have := (List.getElem?_eq_some_iff.1 hj).1
  simpa using this
 subst hj0
 have hu : Value.int .i64 p = u := by simpa using hj
 subst hu
 have hb := blk_cell (blk_new w (.cells (intsV xs).toArray 3)) i
 have e : (⟨w.heap.size, 0, none⟩ : Addr).add (i * (Kd.int IntKind.i64).sz + 0) = ⟨w.heap.size, i, none⟩ := by
  have : i * (Kd.int IntKind.i64).sz + 0 = i := by show i * 1 + 0 = i; omega
  rw [this]
  simp [Addr.add]
  exact fun h => h.symm
 rw [e, hb]
 simp [intsV, hp]
theorem is_two (w : World) (xs ys : List Int) (hx : xs.length ≤ 1000) (hy : ys.length ≤ 1000) (a0 a2 a3 : Int) (h : s20_is.f 60 a0 xs a2 a3 ys = some true) :
  Calls Try.prog 59 #[.int .i64 a0, .slice (some ⟨w.heap.size, 0, none⟩) xs.length xs.length, .int .i64 a2, .int .i64 a3, .slice (some ⟨w.heap.size + 1, 0, none⟩) ys.length ys.length] ((w.alloc (.cells (intsV xs).toArray 3)).alloc (.cells (intsV ys).toArray 3)) fun e w' => e = .returned (.bool true) ∧ Below w.heap.size w w' := by
 have h2 := lit_C (w.alloc (.cells (intsV xs).toArray 3)) ys hy
 rw [World.size_alloc] at h2
 refine (s20_is.calls 60 a0 _ _ xs a2 a3 _ _ ys true _ (Kd.C_alloc (lit_C w xs hx) _) (Nat.le_refl _) h2 (Nat.le_refl _) h).mono ?_
 rintro e w' ⟨rfl, hb⟩
 exact ⟨rfl, (((Below.refl w.heap.size w).alloc (Nat.le_refl _) _).alloc (by simp) _).trans (hb.mono (by simp; omega))⟩
theorem filled_one (w : World) (xs : List Int) (hx : xs.length ≤ 1000) (a0 : Int) (h : s20_filled.f 60 a0 xs = some true) :
  Calls Try.prog 60 #[.int .i64 a0, .slice (some ⟨w.heap.size, 0, none⟩) xs.length xs.length] (w.alloc (.cells (intsV xs).toArray 3)) fun e w' => e = .returned (.bool true) ∧ Below w.heap.size w w' := by
 refine (s20_filled.calls 60 a0 _ _ xs true _ (lit_C w xs hx) (Nat.le_refl _) h).mono ?_
 rintro e w' ⟨rfl, hb⟩
 exact ⟨rfl, ((Below.refl w.heap.size w).alloc (Nat.le_refl _) _).trans (hb.mono (by simp))⟩
def s20_awake.f (k : Nat) : Option Bool := some true
theorem s20_awake.mono : ∀ k, LeO (s20_awake.f k ) (s20_awake.f (k + 1) ) := fun _ => LeO.refl _
theorem ex1 : s20_is.f 60 30 [5] 40 1 [0, 10, 15, 25, 30] = some true := by decide +kernel
theorem ex2 : s20_is.f 60 26 [3, 5] 26 0 [0, 10, 16] = some true := by decide +kernel
theorem ex3 : s20_is.f 60 32 [3, 5] 32 0 [0, 10, 22] = some true := by decide +kernel
theorem ex4 : s20_is.f 60 40 [3, 5] 35 2 [0, 10, 25] = some true := by decide +kernel
theorem ex5 : s20_filled.f 60 30 [3, 5] = some true := by decide +kernel
theorem ex6 : s20_filled.f 60 9 [1, 3, 5] = some true := by decide +kernel
set_option maxRecDepth 100000 in
set_option maxHeartbeats 4000000 in
theorem s20_awake.calls (k : Nat) (r : Bool) (w : World) (h : s20_awake.f k = some r) :
  Calls Try.prog 25 #[] w fun e w' => e = .returned (.bool r) ∧ Below w.heap.size w w' := by
 obtain rfl : true = r := Option.some.inj h
 clear h
 go_enter Try.func25, Try.ntmps25
 go_wp2_with fail
 refine (is_two w [5] [0, 10, 15, 25, 30] (by decide) (by decide) 30 40 1 ex1).mono ?_
 rintro _ w1 ⟨rfl, hb1⟩
 have HB1 := Lib.hid hb1
 clear hb1
 go_wp2_with fail
 refine (is_two w1 [3, 5] [0, 10, 16] (by decide) (by decide) 26 26 0 ex2).mono ?_
 rintro _ w2 ⟨rfl, hb2⟩
 have HB2 := Lib.hid (HB1.out.trans (hb2.mono HB1.out.size))
 clear hb2
 go_wp2_with fail
 refine (is_two w2 [3, 5] [0, 10, 22] (by decide) (by decide) 32 32 0 ex3).mono ?_
 rintro _ w3 ⟨rfl, hb3⟩
 have HB3 := Lib.hid (HB2.out.trans (hb3.mono HB2.out.size))
 clear hb3
 go_wp2_with fail
 refine (is_two w3 [3, 5] [0, 10, 25] (by decide) (by decide) 40 35 2 ex4).mono ?_
 rintro _ w4 ⟨rfl, hb4⟩
 have HB4 := Lib.hid (HB3.out.trans (hb4.mono HB3.out.size))
 clear hb4
 go_wp2_with fail
 refine (filled_one w4 [3, 5] (by decide) 30 ex5).mono ?_
 rintro _ w5 ⟨rfl, hb5⟩
 have HB5 := Lib.hid (HB4.out.trans (hb5.mono HB4.out.size))
 clear hb5
 go_wp2_with fail
 refine (filled_one w5 [1, 3, 5] (by decide) 9 ex6).mono ?_
 rintro _ w6 ⟨rfl, hb6⟩
 have HB6 := Lib.hid (HB5.out.trans (hb6.mono HB5.out.size))
 clear hb6
 go_wp2
 go_ret
 exact ⟨rfl, HB6.out⟩
end Go.Proofs.Ytbddfnmhhmkfkaa.Pr
namespace Go.Proofs.Ytbddfnmhhmkfkaa.Pr
open Go.RowKit Go.Proofs.YtbddfnmhhmkfkaaW.PrintWords Go.Proofs.YtbddfnmhhmkfkaaW.PrintLast Go.Proofs.YtbddfnmhhmkfkaaW.PrintMore
theorem awake20 : s20_awake.f 60 = some true := rfl
theorem awake20_ev : Ev (fun k => (s20_awake.f k).bind fun t => some t) true := Ev.bind (Ev.of s20_awake.mono awake20) (Ev.now _)
end Go.Proofs.Ytbddfnmhhmkfkaa.Pr
namespace Go.Proofs.Ytbddfnmhhmkfkaa.Pr
open Go.RowKit Go.Proofs.YtbddfnmhhmkfkaaW.PrintWords Go.Proofs.YtbddfnmhhmkfkaaW.PrintLast Go.Proofs.YtbddfnmhhmkfkaaW.PrintMore
attribute [local go_sem] max2_int min2_int max_two min_two max_three min_three max_four min_four
set_option linter.unusedVariables false
set_option linter.unusedSimpArgs false
def s20_kind.f (l0 : List (S43)) (a1 : Int) : Option (Int) := if a1 < 0 then (some 0) else (if a1 ≥ (l0.length : Int) then (some 0) else (if 0 ≤ a1 then (if a1 < (l0.length : Int) then (some ((rd_T43 l0 a1).f0)) else (none)) else (none)))
set_option maxHeartbeats 8000000 in
set_option maxRecDepth 100000 in
theorem s20_kind.calls (A0 : Option Addr) (c0 : Nat) (l0 : List (S43)) (a1 : Int) (r : Int) (w : World) (hr0 : Kd.C k43 w A0 l0.length l0) (hc0 : l0.length ≤ c0) (h : s20_kind.f l0 a1 = some r) :
  Calls Try.prog 32 #[.slice A0 l0.length c0, .int .i64 a1] w fun e w' => e = .returned (.int .i64 r) ∧ Drawn0 w w' := by
 have HR0 := Aside0.mk hr0
 have HC0 := Aside0.mk hc0
 clear hr0 hc0
 have H : (if a1 < 0 then (some 0) else (if a1 ≥ (l0.length : Int) then (some 0) else (if 0 ≤ a1 then (if a1 < (l0.length : Int) then (some ((rd_T43 l0 a1).f0)) else (none)) else (none)))) = some r := h
 clear h
 by_cases c3 : a1 < 0
 ·rw [if_pos c3] at H
  have c3b0 : decide (a1 < 0) = true := decide_eq_true c3
  clear c3
  obtain rfl := Option.some.inj H
  go_enter Try.func32, Try.ntmps32
  go_wp2
  go_ret
  exact ⟨by first | rfl | (simp; done) | (simp [*]; done), by repeat (first | exact Drawn0.refl _ | apply Drawn0.step)⟩
 ·rw [if_neg c3] at H
  have c3b0 : decide (a1 < 0) = false := decide_eq_false c3
  clear c3
  by_cases c4 : a1 ≥ (l0.length : Int)
  ·rw [if_pos c4] at H
   have c4b0 : decide ((l0.length : Int) ≤ a1) = true := decide_eq_true c4
   clear c4
   obtain rfl := Option.some.inj H
   go_enter Try.func32, Try.ntmps32
   go_wp2
   go_ret
   exact ⟨by first | rfl | (simp; done) | (simp [*]; done), by repeat (first | exact Drawn0.refl _ | apply Drawn0.step)⟩
  ·rw [if_neg c4] at H
   have c4b0 : decide ((l0.length : Int) ≤ a1) = false := decide_eq_false c4
   clear c4
   by_cases c5 : 0 ≤ a1
   ·rw [if_pos c5] at H
    have c5b0 : decide (0 ≤ a1) = true := decide_eq_true c5
    clear c5
    by_cases c6 : a1 < (l0.length : Int)
    ·rw [if_pos c6] at H
     have c6b0 : decide (a1 < (l0.length : Int)) = true := decide_eq_true c6
     clear c6
     obtain rfl := Option.some.inj H
     have p582 : 0 ≤ (a1 : Int) := of_decide_eq_true (by first | (with_reducible assumption) | assumption)
     have q582 : a1 < (l0.length : Int) := of_decide_eq_true (by first | (with_reducible assumption) | assumption)
     obtain ⟨ad582, e582, hx582_0, hx582_1, hx582_2, hx582_3, hx582_4⟩ := at_T43 HR0.out a1 p582 q582
     cases e582
     replace p582 := eq_true p582
     replace q582 := eq_true q582
     go_enter Try.func32, Try.ntmps32
     go_wp2
     go_ret
     exact ⟨by first | rfl | (simp; done) | (simp [*]; done), by repeat (first | exact Drawn0.refl _ | apply Drawn0.step)⟩
    ·rw [if_neg c6] at H
     exact absurd H (by simp)
   ·rw [if_neg c5] at H
    exact absurd H (by simp)
end Go.Proofs.Ytbddfnmhhmkfkaa.Pr
