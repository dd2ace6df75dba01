/- Texts of this seat, one behind the other. -/
import Derived.Lib.Bytealg
import Derived.Lib.Hide
import Derived.Laws.OwnMore
import Derived.WalkKit
import Derived.Outline
import Derived.Maps.OwnOps
import Derived.DeepKeys4
import Derived.Maps.AppendAt
import Derived.Test.YthcmfjpheanphaaXNormWhite1
import Derived.Test.YthcmfjpheanphaaXNormWhite2
set_option linter.unusedVariables false
set_option linter.unusedSimpArgs false
namespace Go.Mix
open Go Go.Det
variable {P : Program} {ops : Array Oper} {Q : Exit → Act → World → Prop}
def StepG (P : Program) (ops : Array Oper) (S S' : World → Prop) (a : Act) (o : Oper) (v : Value) : Prop :=
 (Region.wanted o (yielded ops a.tmps) = true ∧ ∀ w, S w → o.wp P a w (fun a' w' => a' = a.put o.dst v ∧ S' w') NoOut) ∨
 (Region.wanted o (yielded ops a.tmps) = false ∧ v = undef ∧ ∀ w, S w → S' w)
theorem stepG_same (ok : Ok ops) {S S' : World → Prop} {val : Nat → Value} {a x y : Act} {L L' : Nat → Bool} {i : Nat} {o : Oper} {v : Value} (hi : ops[i]? = some o) (hx : Fr ops val a L x) (hy : Fr ops val a L' y)
  (h : ∀ j oj t, ops[j]? = some oj → oj.dst = some t → t ∈ o.looksAt ops → L j = L' j) (hs : StepG P ops S S' x o v) : StepG P ops S S' y o v := by
 have hev : execOp y.eval o = execOp x.eval o := execOp_congr o (ok.plain i o hi) fun z hz => by
  cases z with
  | tmp t =>
   have := fr_same hx hy t fun j oj hj hd => h j oj t hj hd (List.mem_append_left _ (List.mem_filterMap.2 ⟨.tmp t, by simpa using hz, rfl⟩))
   simp [Act.eval, Array.getD_eq_getD_getElem?, this]
  | _ => rfl
 have hw : Region.wanted o (yielded ops y.tmps) = Region.wanted o (yielded ops x.tmps) := by
  unfold Region.wanted
  cases hg : o.guard with
  | none => rfl
  | some gw =>
   obtain ⟨g, want⟩ := gw
   have : yielded ops y.tmps g = yielded ops x.tmps g := by
    unfold yielded
    cases ht : (ops[g]?).bind (·.dst) with
    | none => rfl
    | some t =>
     have := fr_same hx hy t fun j oj hj hd => h j oj t hj hd (by simp [Oper.looksAt, hg, ht])
     simp [this]
   simp only [this]
 have hsz : y.tmps.size = x.tmps.size := by rw [hx.2.1, hy.2.1]
 rcases hs with ⟨h1, h2⟩ | h1
 ·refine .inl ⟨by rw [hw]; exact h1, fun w hS => ?_⟩
  have := h2 w hS
  unfold Oper.wp at this ⊢
  rw [hev]
  exact upon_same hsz this
 ·exact .inr (by rw [hw]; exact h1)
def tailOk (ops : Array Oper) (k : Nat) (es : List Nat) : Bool := (List.range ops.size).all fun j => decide (j < k) || es.contains j || (List.range j).all fun i => es.contains i || waits ops ops.size j i
theorem tail_waits {k : Nat} {es : List Nat} (ht : tailOk ops k es = true) {j i : Nat} (hj : j < ops.size) (hk : k ≤ j) (he : es.contains j = false) (hi : i < j) (hei : es.contains i = false) : waits ops ops.size j i = true := by
 have := List.all_eq_true.1 ht j (List.mem_range.2 hj)
 simp only [Bool.or_eq_true, decide_eq_true_eq, he, Bool.false_eq_true, or_false] at this
 rcases this with h | h
 ·omega
 ·have := List.all_eq_true.1 h i (List.mem_range.2 hi)
  simpa only [hei, Bool.false_or] using this
def rest (ops : Array Oper) (es : List Nat) : Nat → Nat → List Oper
 | 0, _ => []
 | n + 1, m => match ops[m]? with
  | none => []
  | some o => if es.contains m then rest ops es n (m + 1) else o :: rest ops es n (m + 1)
def esOk (ops : Array Oper) (es : List Nat) : Bool := es.all fun j => match ops[j]? with | some o => o.after.all fun e => !Region.binds .any e || es.contains e.on | none => false
theorem esOk_spec {es : List Nat} (h : esOk ops es = true) {j : Nat} {o : Oper} (hj : ops[j]? = some o) (hc : es.contains j = true) : ∀ e ∈ o.after, Region.binds .any e = true → es.contains e.on = true := fun e he hb => by
 have h1 := List.all_eq_true.1 h j (by simpa using hc)
 simp only [hj] at h1
 have h2 := (Array.all_eq_true_iff_forall_mem.1 h1) e he
 simpa [hb] using h2
theorem any_tail (ok : Ok ops) {k : Nat} {es : List Nat} (hes : esOk ops es = true) (ht : tailOk ops k es = true) : ∀ (n m fuel : Nat) (listed : Array Bool) (a : Act) (w : World), listed.size = ops.size → (∀ i, i < ops.size → listed.getD i false = (decide (i < m) || es.contains i)) →
  k ≤ m → m + n = ops.size → (rest ops es n m).length ≤ fuel → wpList P ops Q (rest ops es n m) a w → wpAny P .any ops Q fuel listed a w := by
 intro n
 induction n with
 | zero =>
  intro m fuel listed a w hsz hL hk hm hf h
  simp only [rest, wpList] at h
  refine wpAny_done ?_ h fuel
  rw [List.eq_nil_iff_forall_not_mem]
  intro i hi
  have hi' := ready_lt hi
  have := ((ready_iff hsz (Array.getElem?_eq_getElem hi')).1 hi).1
  rw [hL i hi'] at this
  simp at this
  omega
 | succ n ih =>
  intro m fuel listed a w hsz hL hk hm hf h
  have hml : m < ops.size := by omega
  have ho : ops[m]? = some ops[m] := Array.getElem?_eq_getElem hml
  cases hem : es.contains m with
  | true =>
   simp only [rest, ho, hem, if_true] at h hf
   refine ih (m + 1) fuel listed a w hsz (fun i hi => ?_) (by omega) (by omega) hf h
   rw [hL i hi, Bool.eq_iff_iff]
   by_cases him : i = m
   ·subst him; simp only [hem, Bool.or_true]
   ·simp only [Bool.or_eq_true, decide_eq_true_eq]
    constructor <;> (rintro (h | h) <;> first | exact .inr h | exact .inl (by omega))
  | false =>
   simp only [rest, ho, hem, Bool.false_eq_true, if_false] at h hf
   cases fuel with
   | zero => simp at hf
   | succ fuel =>
   have hunl : listed.getD m false = false := by rw [hL m hml, hem]; simp
   have hcl : ∀ (j : Nat) (o : Oper), ops[j]? = some o → listed.getD j false = true → ∀ e ∈ o.after, Region.binds .any e = true → listed.getD e.on false = true := fun j o hj hl e he hb => by
    have hb' := ok.back j o hj e he hb
    have hj' := lt_of_some hj
    rw [hL j hj'] at hl
    rw [hL e.on (by omega)]
    rcases Bool.or_eq_true .. ▸ hl with h1 | h1
    ·have : e.on < m := by have := of_decide_eq_true h1; omega
     simp [this]
    ·rw [esOk_spec hes hj h1 e he hb]; simp
   have only : ∀ i, i ∈ Region.ready .any ops listed → i = m := fun i hi => by
    have hi' := ready_lt hi
    obtain ⟨h1, h2⟩ := (ready_iff hsz (Array.getElem?_eq_getElem hi')).1 hi
    rw [hL i hi'] at h1
    simp only [Bool.or_eq_false_iff, decide_eq_false_iff_not] at h1
    rcases Nat.lt_or_ge m i with h3 | h3
    ·exfalso
     have hw := tail_waits ht hi' (by omega) h1.2 h3 hem
     have := waits_listed hcl ops.size i m (fun o ho e he hb => by
      rw [Array.getElem?_eq_getElem hi'] at ho
      cases ho
      exact h2 e he hb) hw
     rw [hunl] at this
     cases this
    ·omega
   refine ⟨fun hr => ?_, fun i hi => ?_⟩
   ·have := least_ready ok hsz hr m hml
    rw [hunl] at this
    cases this
   ·obtain rfl := only i hi
    have hnext : ∀ a w, wpList P ops Q (rest ops es n (i + 1)) a w → wpAny P .any ops Q fuel (listed.setIfInBounds i true) a w := fun a w h' =>
     ih (i + 1) fuel _ a w (by simpa using hsz) (fun j hj => by
      rw [set_getD (by omega), hL j hj, Bool.eq_iff_iff]
      simp only [Bool.or_eq_true, decide_eq_true_eq, beq_iff_eq]
      constructor
      ·rintro ((h1 | h1) | h1)
       ·exact .inl (by omega)
       ·exact .inr h1
       ·exact .inl (by omega)
      ·rintro (h1 | h1)
       ·rcases Nat.lt_or_ge j i with h2 | h2
        ·exact .inl (.inl h2)
        ·exact .inr (by omega)
       ·exact .inl (.inr h1)) (by omega) (by omega) (by simp only [List.length_cons] at hf; omega) h'
    unfold wpOp
    rw [ho]
    simp only
    unfold wpList at h
    split
    ·rename_i hw
     rw [if_pos hw] at h
     exact h.imp (Oper.wp_mono hnext) id
    ·rename_i hw
     rw [if_neg hw] at h
     exact hnext _ _ h
theorem rest_len {es : List Nat} {L : Nat → Bool} : ∀ (n m : Nat), (∀ i, m ≤ i → i < m + n → es.contains i = false → L i = false) → (rest ops es n m).length + cnt L m ≤ cnt L (m + n)
 | 0, m, _ => by simp [rest]
 | n + 1, m, h => by
  have ih := rest_len n (m + 1) fun i hi hin he => h i (by omega) (by omega) he
  rw [show m + 1 + n = m + (n + 1) by omega] at ih
  have hc : cnt L m ≤ cnt L (m + 1) := by simp only [cnt]; omega
  have hm : ∀ n, cnt L m ≤ cnt L (m + n) := fun n => by
   induction n with
   | zero => exact Nat.le_refl _
   | succ n ihn => exact Nat.le_trans ihn (by rw [show m + (n + 1) = (m + n) + 1 by omega]; simp only [cnt]; omega)
  simp only [rest]
  split
  ·simp only [List.length_nil]; have := hm (n + 1); omega
  ·split
   ·omega
   ·rename_i he
    have hl := h m (Nat.le_refl _) (by omega) (by simpa using he)
    have hc1 : cnt L (m + 1) = cnt L m + 1 := by simp only [cnt, hl, Bool.false_eq_true, if_false]
    simp only [List.length_cons]
    omega
theorem any_mix (ok : Ok ops) {S : Bool → World → Prop} {μ k : Nat} {es : List Nat} (hes : esOk ops es = true) (hμ : es.contains μ = false) (hkn : k ≤ ops.size) (ht : tailOk ops k es = true) {val : Nat → Value} {a0 : Act}
  (hsteps : ∀ i o, i < k → es.contains i = false → ops[i]? = some o → ∃ x, Fr ops val a0 (fun j => decide (j < i) || es.contains j) x ∧ (if i = μ then StepG P ops (S false) (S true) x o (val i) else ∀ b, StepG P ops (S b) (S b) x o (val i)))
  (hend : ∀ x, Fr ops val a0 (fun j => decide (j < k) || es.contains j) x → ∀ w, S (decide (μ < k)) w → wpList P ops Q (rest ops es (ops.size - k) k) x w) : ∀ (fuel : Nat) (listed : Array Bool) (a : Act) (w : World), listed.size = ops.size →
  cnt (fun i => listed.getD i false) ops.size ≤ fuel → (∀ i o, ops[i]? = some o → listed.getD i false = true → ∀ e ∈ o.after, Region.binds .any e = true → listed.getD e.on false = true) →
  (∀ i, i < ops.size → listed.getD i false = true → i < k ∨ es.contains i = true) → (∀ i, i < ops.size → es.contains i = true → listed.getD i false = true) →
  Fr ops val a0 (fun i => listed.getD i false) a → S (listed.getD μ false) w → wpAny P .any ops Q fuel listed a w := by
 have fin : ∀ (fuel : Nat) (listed : Array Bool) (a : Act) (w : World), listed.size = ops.size →
  cnt (fun i => listed.getD i false) ops.size ≤ fuel →
  (∀ i, i < ops.size → listed.getD i false = true → i < k ∨ es.contains i = true) → (∀ i, i < ops.size → es.contains i = true → listed.getD i false = true) →
  Fr ops val a0 (fun i => listed.getD i false) a → S (listed.getD μ false) w → (∀ i, i < k → listed.getD i false = true) → wpAny P .any ops Q fuel listed a w := by
  intro fuel listed a w hsz hc hlk hel hf hS hdone
  have hL : ∀ i, i < ops.size → listed.getD i false = (decide (i < k) || es.contains i) := fun i hi => by
   by_cases hik : i < k
   ·rw [hdone i hik]; simp [hik]
   ·cases he : es.contains i with
    | true => rw [hel i hi he]; simp
    | false =>
     have : listed.getD i false ≠ true := fun h => by
      rcases hlk i hi h with h | h
      ·exact hik h
      ·rw [he] at h; cases h
     simp only [Bool.not_eq_true] at this
     rw [this]; simp [hik]
  have hb : listed.getD μ false = decide (μ < k) := by
   rcases Nat.lt_or_ge μ ops.size with h | h
   ·rw [hL μ h, hμ]; simp
   ·rw [Array.getD_eq_getD_getElem?, Array.getElem?_eq_none (by omega)]
    simp; omega
  rw [hb] at hS
  refine any_tail ok hes ht (ops.size - k) k fuel listed a w hsz hL (Nat.le_refl _) (by omega) ?_ (hend a (fr_congr hf (fun j hj => (hL j hj).symm) (fun _ _ => rfl)) w hS)
  have := rest_len (ops := ops) (es := es) (L := fun i => listed.getD i false) (ops.size - k) k fun i hi hin he => by
   show listed.getD i false = false
   rw [hL i (by omega), he]; simp; omega
  rw [show k + (ops.size - k) = ops.size by omega] at this
  omega
 intro fuel
 induction fuel with
 | zero =>
  intro listed a w hsz hc hcl hlk hel hf hS
  have hall := cnt_zero _ _ (Nat.le_zero.1 hc)
  exact fin 0 listed a w hsz hc hlk hel hf hS fun i hi => hall i (by omega)
 | succ fuel ih =>
  intro listed a w hsz hc hcl hlk hel hf hS
  by_cases hdone : ∀ i, i < k → listed.getD i false = true
  ·exact fin _ listed a w hsz hc hlk hel hf hS hdone
  refine ⟨fun hr => absurd (fun i hi => least_ready ok hsz hr i (by omega)) hdone, fun i hi => ?_⟩
  have hin : i < ops.size := ready_lt hi
  have hil : i < listed.size := by omega
  obtain ⟨o, ho⟩ : ∃ o, ops[i]? = some o := ⟨_, Array.getElem?_eq_getElem hin⟩
  obtain ⟨hlf, hdeps⟩ := (ready_iff hsz ho).1 hi
  have hie : es.contains i = false := by
   cases he : es.contains i with
   | false => rfl
   | true => rw [hel i hin he] at hlf; cases hlf
  have hik : i < k := by
   rcases Nat.lt_or_ge i k with h | h
   ·exact h
   ·exfalso
    refine hdone fun j hj => ?_
    cases hej : es.contains j with
    | true => exact hel j (by omega) hej
    | false =>
     have hw := tail_waits ht hin h hie (show j < i by omega) hej
     exact waits_listed hcl ops.size i j (fun o' ho' e he hb => by
      rw [ho] at ho'
      cases ho'
      exact hdeps e he hb) hw
  have hset : ∀ j, (listed.setIfInBounds i true).getD j false = (listed.getD j false || j == i) := fun j => set_getD hil j
  obtain ⟨x, hfx, hsx⟩ := hsteps i o hik hie ho
  have look : ∀ j oj t, ops[j]? = some oj → oj.dst = some t → t ∈ o.looksAt ops → (decide (j < i) || es.contains j) = listed.getD j false := fun j oj t hj hd ht => by
   rcases ok.reads i o j oj t ho hj hd ht with ⟨e, he, hb, rfl⟩ | ⟨hne, e, he, hb, hei⟩
   ·rw [hdeps e he hb]
    have := ok.back i o ho e he hb
    simp [this]
   ·have hlt : i < j := hei ▸ ok.back j oj hj e he hb
    have hlj : listed.getD j false = false := by
     cases hlj : listed.getD j false with
     | false => rfl
     | true =>
      have := hcl j oj hj hlj e he hb
      rw [hei, hlf] at this
      cases this
    rw [hlj]
    have : es.contains j = false := by
     cases hej : es.contains j with
     | false => rfl
     | true => rw [hel j (lt_of_some hj) hej] at hlj; cases hlj
    rw [this]
    simp; omega
  have hnext : ∀ w', S ((listed.setIfInBounds i true).getD μ false) w' → wpAny P .any ops Q fuel (listed.setIfInBounds i true) (a.put o.dst (val i)) w' := fun w' hS' => by
   refine ih _ _ _ (by simpa using hsz) ?_ ?_ ?_ ?_ ?_ hS'
   ·have := (cnt_set (fun j => listed.getD j false) (fun j => (listed.setIfInBounds i true).getD j false) i hlf hset ops.size).1 hin
    omega
   ·intro j oj hj hlj e he hb
    rw [hset] at hlj ⊢
    rcases Bool.or_eq_true .. ▸ hlj with h | h
    ·rw [hcl j oj hj h e he hb]; rfl
    ·have : j = i := by simpa using h
     subst this
     rw [ho] at hj
     cases hj
     rw [hdeps e he hb]; rfl
   ·intro j hj hlj
    rw [hset] at hlj
    rcases Bool.or_eq_true .. ▸ hlj with h | h
    ·exact hlk j hj h
    ·have : j = i := by simpa using h
     exact .inl (by omega)
   ·intro j hj he
    rw [hset, hel j hj he]; rfl
   ·exact fr_put ok ho hf fun j _ => hset j
  have go : ∀ S1 S2 : World → Prop, S1 w → (∀ w', S2 w' → S ((listed.setIfInBounds i true).getD μ false) w') → StepG P ops S1 S2 a o (val i) → wpOp P ops Q i (wpAny P .any ops Q fuel (listed.setIfInBounds i true)) a w := by
   intro S1 S2 h1 h2 hst
   unfold wpOp
   rw [ho]
   simp only
   rcases hst with ⟨hw, hrun⟩ | ⟨hw, hv, hs⟩
   ·rw [if_pos hw]
    refine .inl ?_
    have := hrun w h1
    unfold Oper.wp at this ⊢
    exact upon_imp (fun a' w' ⟨ha', hS'⟩ => ha' ▸ hnext w' (h2 _ hS')) this
   ·rw [if_neg (by rw [hw]; simp)]
    rw [← hv]
    exact hnext w (h2 _ (hs _ h1))
  by_cases hiμ : i = μ
  ·rw [if_pos hiμ] at hsx
   refine go (S false) (S true) ?_ (fun w' h => ?_) (stepG_same ok ho hfx hf look hsx)
   ·rw [← hiμ, hlf] at hS; exact hS
   ·rw [← hiμ, hset]; simpa using h
  ·rw [if_neg hiμ] at hsx
   refine go _ _ hS (fun w' h => ?_) (stepG_same ok ho hfx hf look (hsx _))
   rw [hset, show (μ == i) = false by simpa using Ne.symm hiμ, Bool.or_false]
   exact h
theorem wpList_one2 {S' : World → Prop} {o : Oper} {t F : Array Value} {d : List Deferred} {w : World} (h : wpList P ops (AtEnd S' d F) [o] { tmps := t, defers := d } w) :
  (Region.wanted o (yielded ops t) = true ∧ o.wp P { tmps := t, defers := d } w (fun a' w' => a' = { tmps := F, defers := d } ∧ S' w') NoOut) ∨
  (Region.wanted o (yielded ops t) = false ∧ ({ tmps := t, defers := d } : Act).put o.dst undef = { tmps := F, defers := d } ∧ S' w) := by
 rcases wpList_one (S := S') h with h1 | h1
 ·exact .inl h1
 ·refine .inr ⟨h1.1, h1.2, ?_⟩
  unfold wpList at h
  rw [if_neg (by rw [h1.1]; simp)] at h
  simp only [wpList, AtEnd] at h
  exact h.2.2
def SeqM (P : Program) (ops : Array Oper) (S : Bool → World → Prop) (μ : Nat) (es : List Nat) (d : List Deferred) (R : Array Value → Prop) : Nat → List Oper → Array Value → Prop
 | _, [], t => R t
 | i, o :: l, t => if es.contains i then SeqM P ops S μ es d R (i + 1) l t else
   ∃ t' : Array Value, (if i = μ then ∀ w, S false w → wpList P ops (AtEnd (S true) d t') [o] { tmps := t, defers := d } w
    else ∀ b w, S b w → wpList P ops (AtEnd (S b) d t') [o] { tmps := t, defers := d } w) ∧ SeqM P ops S μ es d R (i + 1) l t'
theorem seqM_nil {S : Bool → World → Prop} {μ i : Nat} {es : List Nat} {d : List Deferred} {R : Array Value → Prop} {t : Array Value} (h : R t) : SeqM P ops S μ es d R i [] t := h
theorem seqM_skip {S : Bool → World → Prop} {μ i : Nat} {es : List Nat} {d : List Deferred} {R : Array Value → Prop} {o : Oper} {l : List Oper} {t : Array Value} (he : es.contains i = true)
  (h : SeqM P ops S μ es d R (i + 1) l t) : SeqM P ops S μ es d R i (o :: l) t := by
 simp only [SeqM, he, if_true]; exact h
theorem seqM_cons {S : Bool → World → Prop} {μ i : Nat} {es : List Nat} {d : List Deferred} {R : Array Value → Prop} {o : Oper} {l : List Oper} {t t' : Array Value} (he : es.contains i = false) (hμ : (i == μ) = false)
  (h : ∀ b w, S b w → wpList P ops (AtEnd (S b) d t') [o] { tmps := t, defers := d } w) (hr : SeqM P ops S μ es d R (i + 1) l t') : SeqM P ops S μ es d R i (o :: l) t := by
 simp only [SeqM, he, Bool.false_eq_true, if_false]
 exact ⟨t', by rw [if_neg (by simpa using hμ)]; exact h, hr⟩
theorem seqM_main {S : Bool → World → Prop} {μ : Nat} {es : List Nat} {d : List Deferred} {R : Array Value → Prop} {o : Oper} {l : List Oper} {t t' : Array Value} (he : es.contains μ = false)
  (h : ∀ w, S false w → wpList P ops (AtEnd (S true) d t') [o] { tmps := t, defers := d } w) (hr : SeqM P ops S μ es d R (μ + 1) l t') : SeqM P ops S μ es d R μ (o :: l) t := by
 simp only [SeqM, he, Bool.false_eq_true, if_false]
 exact ⟨t', by rw [if_pos trivial]; exact h, hr⟩
theorem stepG_of {S S' : World → Prop} {o : Oper} {t F : Array Value} {d : List Deferred} {v : Value} (hv : Region.wanted o (yielded ops t) = false → v = undef)
  (he : ({ tmps := F, defers := d } : Act) = ({ tmps := t, defers := d } : Act).put o.dst v) (h : ∀ w, S w → wpList P ops (AtEnd S' d F) [o] { tmps := t, defers := d } w) : StepG P ops S S' { tmps := t, defers := d } o v := by
 cases hw : Region.wanted o (yielded ops t) with
 | true =>
  refine .inl ⟨hw, fun w hS => ?_⟩
  rcases wpList_one2 (h w hS) with ⟨_, h2⟩ | ⟨h2, _⟩
  ·rw [he] at h2; exact h2
  ·rw [hw] at h2; cases h2
 | false =>
  refine .inr ⟨hw, hv hw, fun w hS => ?_⟩
  rcases wpList_one2 (h w hS) with ⟨h2, _⟩ | ⟨_, _, h2⟩
  ·rw [hw] at h2; cases h2
  ·exact h2
theorem put_of {S' : World → Prop} {o : Oper} {t F : Array Value} {d : List Deferred} {w : World} (h : wpList P ops (AtEnd S' d F) [o] { tmps := t, defers := d } w) :
  ∃ v, (Region.wanted o (yielded ops t) = false → v = undef) ∧ ({ tmps := F, defers := d } : Act) = ({ tmps := t, defers := d } : Act).put o.dst v := by
 rcases wpList_one2 h with ⟨hw, h2⟩ | ⟨hw, h2, _⟩
 ·exact ⟨_, fun h => (by rw [hw] at h; cases h), upon_some (S := S') h2⟩
 ·exact ⟨undef, fun _ => rfl, h2.symm⟩
theorem seqM_vals (ok : Ok ops) {S : Bool → World → Prop} {μ : Nat} {es : List Nat} {d : List Deferred} {R : Array Value → Prop} {a0 : Act} {w0 : World} (h0 : S false w0) : ∀ (l : List Oper) (i : Nat) (val0 : Nat → Value) (t : Array Value),
  (∀ j o, l[j]? = some o → ops[i + j]? = some o) → Fr ops val0 a0 (fun j => decide (j < i) || es.contains j) { tmps := t, defers := d } → SeqM P ops S μ es d R i l t →
  ∃ val : Nat → Value, (∀ j, (j < i ∨ es.contains j = true) → val j = val0 j) ∧ (∀ k o, i ≤ k → k < i + l.length → es.contains k = false → ops[k]? = some o → ∃ x, Fr ops val a0 (fun j => decide (j < k) || es.contains j) x ∧
   (if k = μ then StepG P ops (S false) (S true) x o (val k) else ∀ b, StepG P ops (S b) (S b) x o (val k))) ∧
   ∃ t', Fr ops val a0 (fun j => decide (j < i + l.length) || es.contains j) { tmps := t', defers := d } ∧ R t'
 | [], i, val0, t, hl, hf, h => ⟨val0, fun _ _ => rfl, fun k o hk ho => absurd ho (by simp; omega), t, hf, h⟩
 | o :: rest, i, val0, t, hl, hf, h => by
  have hi : ops[i]? = some o := hl 0 o (by simp)
  have hl' : ∀ j o', rest[j]? = some o' → ops[i + 1 + j]? = some o' := fun j o' hj => by
   have := hl (j + 1) o' (by simpa using hj)
   rw [show i + 1 + j = i + (j + 1) by omega]; exact this
  have hlen : i + (o :: rest).length = i + 1 + rest.length := by simp only [List.length_cons]; omega
  rw [hlen]
  cases he : es.contains i with
  | true =>
   simp only [SeqM, he, if_true] at h
   have hf1 : Fr ops val0 a0 (fun j => decide (j < i + 1) || es.contains j) { tmps := t, defers := d } := fr_congr hf (fun j hj => by
    rw [Bool.eq_iff_iff]
    simp only [Bool.or_eq_true, decide_eq_true_eq]
    constructor
    ·rintro (h1 | h1)
     ·rcases Nat.lt_or_ge j i with h2 | h2
      ·exact .inl h2
      ·obtain rfl : j = i := by omega
       exact .inr he
     ·exact .inr h1
    ·rintro (h1 | h1)
     ·exact .inl (by omega)
     ·exact .inr h1) (fun _ _ => rfl)
   obtain ⟨val, hv, hsteps, hend⟩ := seqM_vals ok h0 rest (i + 1) val0 t hl' hf1 h
   refine ⟨val, fun j hj => hv j (hj.imp (by omega) id), fun k ok' hk hkl hke hko => ?_, hend⟩
   by_cases hki : k = i
   ·subst hki; rw [he] at hke; cases hke
   ·exact hsteps k ok' (by omega) hkl hke hko
  | false =>
   simp only [SeqM, he, Bool.false_eq_true, if_false] at h
   obtain ⟨F, hF, hrest⟩ := h
   have hput : ∃ v, (Region.wanted o (yielded ops t) = false → v = undef) ∧ ({ tmps := F, defers := d } : Act) = ({ tmps := t, defers := d } : Act).put o.dst v := by
    by_cases hiμ : i = μ
    ·rw [if_pos hiμ] at hF; exact put_of (hF w0 h0)
    ·rw [if_neg hiμ] at hF; exact put_of (hF false w0 h0)
   obtain ⟨v, hvu, hput⟩ := hput
   have hst : if i = μ then StepG P ops (S false) (S true) { tmps := t, defers := d } o v else ∀ b, StepG P ops (S b) (S b) { tmps := t, defers := d } o v := by
    by_cases hiμ : i = μ
    ·rw [if_pos hiμ] at hF ⊢
     exact stepG_of hvu hput hF
    ·rw [if_neg hiμ] at hF ⊢
     exact fun b => stepG_of hvu hput (hF b)
   let val1 : Nat → Value := fun j => if j = i then v else val0 j
   have hne : ∀ j, (decide (j < i) || es.contains j) = true → j ≠ i := fun j hj hji => by
    subst hji
    rw [he] at hj
    simp at hj
   have hf1 : Fr ops val1 a0 (fun j => decide (j < i) || es.contains j) { tmps := t, defers := d } := fr_congr hf (fun _ _ => rfl) (fun j hj => by
    show (if j = i then v else val0 j) = _
    rw [if_neg (hne j hj)])
   have hv1 : val1 i = v := if_pos rfl
   have hf2 : Fr ops val1 a0 (fun j => decide (j < i + 1) || es.contains j) { tmps := F, defers := d } := by
    rw [hput, ← hv1]
    exact fr_put ok hi hf1 fun j _ => by
     rw [Bool.eq_iff_iff]
     simp only [Bool.or_eq_true, decide_eq_true_eq, beq_iff_eq]
     constructor
     ·rintro (h1 | h1)
      ·rcases Nat.lt_or_ge j i with h2 | h2
       ·exact .inl (.inl h2)
       ·exact .inr (by omega)
      ·exact .inl (.inr h1)
     ·rintro ((h1 | h1) | h1)
      ·exact .inl (by omega)
      ·exact .inr h1
      ·exact .inl (by omega)
   obtain ⟨val, hv, hsteps, hend⟩ := seqM_vals ok h0 rest (i + 1) val1 F hl' hf2 hrest
   refine ⟨val, fun j hj => ?_, fun k ok' hk hkl hke hko => ?_, hend⟩
   ·rw [hv j (hj.imp (by omega) id)]
    show (if j = i then v else val0 j) = _
    rw [if_neg (hne j (by rcases hj with h1 | h1 <;> rw [Bool.or_eq_true] <;> first | exact .inl (decide_eq_true h1) | exact .inr h1))]
   ·by_cases hki : k = i
    ·subst hki
     rw [hi] at hko
     cases hko
     refine ⟨_, fr_congr hf1 (fun _ _ => rfl) (fun j hj => hv j ?_), ?_⟩
     ·rcases Bool.or_eq_true .. ▸ hj with h1 | h1
      ·exact .inl (Nat.lt_succ_of_lt (of_decide_eq_true h1))
      ·exact .inr h1
     ·rw [hv k (by omega), hv1]
      exact hst
    ·exact hsteps k ok' (by omega) hkl hke hko
def SeqE (P : Program) (ops : Array Oper) (d : List Deferred) (R : Array Value → Prop) : List Nat → Array Value → Prop
 | [], t => R t
 | e :: es, t => ∃ o, ops[e]? = some o ∧ ∃ (v : Value) (t' : Array Value), Yields P ops o v { tmps := t, defers := d } ∧ ({ tmps := t, defers := d } : Act).put o.dst v = { tmps := t', defers := d } ∧ SeqE P ops d R es t'
theorem seqE_nil {d : List Deferred} {R : Array Value → Prop} {t : Array Value} (h : R t) : SeqE P ops d R [] t := h
theorem seqE_cons {d : List Deferred} {R : Array Value → Prop} {e : Nat} {es : List Nat} {t t' : Array Value} (o : Oper) (v : Value) (ho : ops[e]? = some o) (hw : Region.wanted o (yielded ops t) = true)
  (hv : ∀ w, (execOp ({ tmps := t, defers := d } : Act).eval o).run P w = .ok (.value v) w) (ht : ({ tmps := t, defers := d } : Act).put o.dst v = { tmps := t', defers := d }) (hr : SeqE P ops d R es t') : SeqE P ops d R (e :: es) t :=
 ⟨o, ho, v, t', .inl ⟨hw, hv⟩, ht, hr⟩
def takeOk (ops : Array Oper) : List Nat → Array Bool → Bool
 | [], _ => true
 | e :: es, listed => (Region.ready .any ops listed).contains e && Region.free .any ops listed e && takeOk ops es (listed.setIfInBounds e true)
theorem any_take {d : List Deferred} {R : Array Value → Prop} {w : World} {a0 : Act} (ok : Ok ops) (hs : Region.noSelect ops = true) (hQ : ∀ c (a : Act) dst v w, Q (.panic c) (a.put dst v) w → Q (.panic c) a w) :
  ∀ (es : List Nat) (listed : Array Bool) (fuel : Nat) (t : Array Value) (val0 : Nat → Value), listed.size = ops.size → takeOk ops es listed = true → Fr ops val0 a0 (fun j => listed.getD j false) { tmps := t, defers := d } → SeqE P ops d R es t →
   (∀ (t' : Array Value) (val : Nat → Value), Fr ops val a0 (fun j => (es.foldl (fun L e => L.setIfInBounds e true) listed).getD j false) { tmps := t', defers := d } → R t' → wpAny P .any ops Q fuel (es.foldl (fun L e => L.setIfInBounds e true) listed) { tmps := t', defers := d } w) →
   wpAny P .any ops Q (fuel + es.length) listed { tmps := t, defers := d } w
 | [], listed, fuel, t, val0, hsz, htk, hf, h, hk => hk t val0 hf h
 | e :: es, listed, fuel, t, val0, hsz, htk, hf, h, hk => by
  obtain ⟨o, ho, v, t', hy, hp, hr⟩ := h
  simp only [takeOk, Bool.and_eq_true] at htk
  have hrd : e ∈ Region.ready .any ops listed := by simpa using htk.1.1
  have hlf := ((ready_iff hsz ho).1 hrd).1
  have hin := lt_of_some ho
  let val1 : Nat → Value := fun j => if j = e then v else val0 j
  have hf1 : Fr ops val1 a0 (fun j => listed.getD j false) { tmps := t, defers := d } := fr_congr hf (fun _ _ => rfl) (fun j hj => by
   show (if j = e then v else val0 j) = _
   rw [if_neg]
   rintro rfl
   rw [hlf] at hj
   cases hj)
  have hv1 : val1 e = v := if_pos rfl
  refine wpAny_take (fuel := fuel + es.length) ho hs htk.1.2 htk.1.1 (fun c a w => hQ c a _ _ w) hy ?_
  rw [hp]
  refine any_take ok hs hQ es (listed.setIfInBounds e true) fuel t' val1 (by simpa using hsz) htk.2 ?_ hr hk
  rw [← hp, ← hv1]
  exact fr_put ok ho hf1 fun j _ => set_getD (by omega) j
theorem fold_getD {n : Nat} : ∀ (es : List Nat) (L : Array Bool), L.size = n → (∀ e ∈ es, e < n) → (es.foldl (fun L e => L.setIfInBounds e true) L).size = n ∧ ∀ j, (es.foldl (fun L e => L.setIfInBounds e true) L).getD j false = (L.getD j false || es.contains j)
 | [], L, h, _ => ⟨h, fun j => by simp⟩
 | e :: es, L, h, hlt => by
  obtain ⟨h1, h2⟩ := fold_getD es (L.setIfInBounds e true) (by simpa using h) (fun x hx => hlt x (List.mem_cons_of_mem _ hx))
  refine ⟨h1, fun j => ?_⟩
  have he : e < L.size := by have := hlt e (by simp); omega
  rw [List.foldl_cons, h2 j, set_getD he]
  rw [List.contains_cons, Bool.or_assoc]
def mixOk (ops : Array Oper) (μ k : Nat) (es : List Nat) : Bool :=
 okOps ops && esOk ops es && !es.contains μ && tailOk ops k es && decide (k ≤ ops.size) && takeOk ops es (Array.replicate ops.size false) && Region.noSelect ops && decide (cnt (fun j => es.contains j) ops.size + es.length ≤ ops.size)
theorem region_mix {id : Nat} {l : List Oper} {t : Array Value} {d : List Deferred} {w : World} (S : Bool → World → Prop) (μ k : Nat) (es : List Nat) (hm : P.follows .mixedOrders = true) (hok : mixOk l.toArray μ k es = true)
  (hQ0 : ∀ c (a : Act) (x : Tmp) v w, Q (.panic c) (a.put (some x) v) w → Q (.panic c) a w) (hS : S false w.drew)
  (h : SeqE P l.toArray d (fun t' => SeqM P l.toArray S μ es d (fun t'' => ∀ w', S (decide (μ < k)) w' → wpList P l.toArray Q (rest l.toArray es (l.length - k) k) { tmps := t'', defers := d } w') 0 (l.take k) t') es t) :
  (Code.region id l.toArray true).wp P Q { tmps := t, defers := d } w := by
 have hQ : ∀ c (a : Act) dst v w, Q (.panic c) (a.put dst v) w → Q (.panic c) a w := fun c a dst v w h => by
  cases dst with
  | none => exact h
  | some x => exact hQ0 c a x v w h
 simp only [mixOk, Bool.and_eq_true, decide_eq_true_eq, Bool.not_eq_true'] at hok
 obtain ⟨⟨⟨⟨⟨⟨⟨hok, hes⟩, hμ⟩, ht⟩, hk⟩, htk⟩, hns⟩, hcnt⟩ := hok
 have ok := okOps_spec hok
 have hlen : l.toArray.size = l.length := by simp
 have helt : ∀ e ∈ es, e < l.toArray.size := fun e he => by
  have := List.all_eq_true.1 hes e he
  cases ho : l.toArray[e]? with
  | none => rw [ho] at this; simp at this
  | some o => exact lt_of_some ho
 refine wp_region_any hm ?_
 obtain ⟨f, hf⟩ : ∃ f, l.toArray.size = f + es.length := ⟨l.toArray.size - es.length, by omega⟩
 have hfold := fold_getD (n := l.toArray.size) es (Array.replicate l.toArray.size false) (by simp) helt
 have hgd : ∀ j, (es.foldl (fun L e => L.setIfInBounds e true) (Array.replicate l.toArray.size false)).getD j false = es.contains j := fun j => by rw [hfold.2 j, rep_false]; simp
 have main : wpAny P .any l.toArray Q (f + es.length) (Array.replicate l.toArray.size false) { tmps := t, defers := d } { w with drawn := w.drawn + 1 } := by
  refine any_take (R := _) ok hns hQ es _ f t (fun _ => undef) (by simp) htk (fr_start _ _ _ fun i _ => rep_false _ i) h fun t' val0 hfr hR => ?_
  have hfr0 : Fr l.toArray val0 { tmps := t, defers := d } (fun j => decide (j < 0) || es.contains j) { tmps := t', defers := d } := fr_congr hfr (fun j _ => by rw [hgd]; simp) (fun _ _ => rfl)
  obtain ⟨val, hv, hsteps, t'', hfx, hR'⟩ := seqM_vals ok hS (l.take k) 0 val0 t' (fun j o hj => by
   rw [List.getElem?_take] at hj
   split at hj
   ·simpa using hj
   ·cases hj) hfr0 hR
  have hlk : 0 + (l.take k).length = k := by rw [List.length_take]; omega
  rw [hlk] at hsteps hfx
  refine any_mix ok (S := S) (μ := μ) (k := k) (es := es) hes hμ (by omega) ht (val := val) (a0 := { tmps := t, defers := d }) (fun i o hi he ho => hsteps i o (Nat.zero_le _) hi he ho) (fun y hy w' hS' => ?_) _ _ _ _ hfold.1 ?_ ?_ ?_ ?_ ?_ ?_
  ·rw [fr_eq hy hfx fun _ _ => rfl]
   exact hR' w' hS'
  ·rw [show (fun i => (es.foldl (fun L e => L.setIfInBounds e true) (Array.replicate l.toArray.size false)).getD i false) = fun j => es.contains j from funext hgd]
   omega
  ·intro i o hi hl e he hb
   rw [hgd] at hl ⊢
   exact esOk_spec hes hi hl e he hb
  ·intro i hi hl
   rw [hgd] at hl
   exact .inr hl
  ·intro i hi he
   rw [hgd]; exact he
  ·exact fr_congr hfr (fun _ _ => rfl) (fun j hj => hv j (.inr (by rw [hgd] at hj; exact hj)))
  ·rw [hgd, hμ]; exact hS
 rw [← hf] at main
 exact main
theorem rest_drop {es : List Nat} : ∀ (n m : Nat), m + n = ops.size → (∀ e ∈ es, e < m) → rest ops es n m = ops.toList.drop m
 | 0, m, h, _ => by
  rw [List.drop_eq_nil_of_le (by simp; omega)]
  rfl
 | n + 1, m, h, he => by
  have ho : ops[m]? = some ops[m] := Array.getElem?_eq_getElem (by omega)
  have hc : es.contains m = false := by
   cases hc : es.contains m with
   | false => rfl
   | true => have := he m (by simpa using hc); omega
  simp only [rest, ho, hc, Bool.false_eq_true, if_false]
  rw [rest_drop n (m + 1) (by omega) (fun e h => Nat.lt_succ_of_lt (he e h)), drop_cons ho]
theorem region_mix' {id : Nat} {l : List Oper} {t : Array Value} {d : List Deferred} {w : World} (S : Bool → World → Prop) (μ k : Nat) (es : List Nat) (hm : P.follows .mixedOrders = true) (hok : (mixOk l.toArray μ k es && es.all fun e => decide (e < k)) = true)
  (hQ0 : ∀ c (a : Act) (x : Tmp) v w, Q (.panic c) (a.put (some x) v) w → Q (.panic c) a w) (hS : S false w.drew)
  (h : SeqE P l.toArray d (fun t' => SeqM P l.toArray S μ es d (fun t'' => ∀ w', S (decide (μ < k)) w' → wpList P l.toArray Q (l.drop k) { tmps := t'', defers := d } w') 0 (l.take k) t') es t) :
  (Code.region id l.toArray true).wp P Q { tmps := t, defers := d } w := by
 simp only [Bool.and_eq_true, List.all_eq_true, decide_eq_true_eq] at hok
 have hk : k ≤ l.length := by
  have := hok.1
  simp only [mixOk, Bool.and_eq_true, decide_eq_true_eq] at this
  have := this.1.1.1.2
  simpa using this
 refine region_mix S μ k es hm hok.1 hQ0 hS ?_
 rw [rest_drop (ops := l.toArray) (l.length - k) k (by simp; omega) hok.2]
 exact h
end Go.Mix
namespace Go.Proofs.Ythcmfjpheanphaa.Pr
open Go.RowKit Go.Proofs.YthcmfjpheanphaaW.PrintWords
attribute [local go_sem] Oper.semAt_some
def cellsO (x : Opn) : List Value := [.int .u8 x.kind, .int .i64 x.pos, .int .i64 x.kids, .int .i64 x.note, .bool x.past, .int .i64 x.cols, .int .i64 x.text]
def flatO (xs : List Opn) : List Value := xs.flatMap cellsO
theorem flatO_length (xs : List Opn) : (flatO xs).length = xs.length * 7 := by
 induction xs with
 | nil => rfl
 | cons x xs ih => simp [flatO, cellsO] at ih ⊢; omega
theorem flatO_snoc (xs : List Opn) (x : Opn) : flatO (xs ++ [x]) = flatO xs ++ cellsO x := by simp [flatO]
theorem flatO_cons (x : Opn) (xs : List Opn) : flatO (x :: xs) = cellsO x ++ flatO xs := by simp [flatO]
theorem flatO_at (xs : List Opn) : ∀ (j i : Nat), j < xs.length → i < 7 → (flatO xs)[j * 7 + i]? = (cellsO (xs.getD j zOpn))[i]? := by
 induction xs with
 | nil => intro j i h; simp at h
 | cons x xs ih =>
  intro j i h hi
  rw [flatO_cons]
  cases j with
  | zero => rw [List.getElem?_append_left (by simp [cellsO]; omega)]; simp
  | succ j =>
   rw [List.getElem?_append_right (by simp [cellsO]; omega)]
   have := ih j i (by simpa using h) hi
   rw [show (j + 1) * 7 + i - (cellsO x).length = j * 7 + i from by simp [cellsO]; omega, this]
   simp
theorem flatO_mod (f : Opn → Opn) (i : Nat) (hi : i < 7) (u : Value) : ∀ (xs : List Opn) (j : Nat), j < xs.length → cellsO (f (xs.getD j zOpn)) = (cellsO (xs.getD j zOpn)).set i u → (flatO xs).set (j * 7 + i) u = flatO (xs.modify j f)
 | [], j, h, _ => by simp at h
 | x :: xs, 0, h, hf => by
  rw [flatO_cons, List.modify_zero_cons, flatO_cons, List.set_append_left _ _ (by simp [cellsO]; omega), Nat.zero_mul, Nat.zero_add]
  simp only [List.getD_cons_zero] at hf
  rw [hf]
 | x :: xs, j + 1, h, hf => by
  rw [flatO_cons, List.modify_succ_cons, flatO_cons, List.set_append_right _ _ (by simp [cellsO]; omega)]
  rw [show (j + 1) * 7 + i - (cellsO x).length = j * 7 + i from by simp [cellsO]; omega]
  rw [flatO_mod f i hi u xs j (by simpa using h) (by simpa using hf)]
def RowO (W : World) (B0 : Nat) (v : Value) (r : List Opn) : Prop := W.ownsRow B0 155 7 v r.length (flatO r)
theorem rowO_form {W : World} {B0 : Nat} {v : Value} {r : List Opn} (h : RowO W B0 v r) (hr : 0 < r.length) : ∃ g c, v = .slice (some ⟨g, 0, none⟩) r.length c ∧ W.ownsRow B0 155 7 (.slice (some ⟨g, 0, none⟩) r.length c) r.length (flatO r) := by
 obtain ⟨A, c, rfl⟩ := own_slice h
 rcases h.2 with ⟨_, h0⟩ | ⟨g, cap, cur, e, _⟩
 ·omega
 ·simp only [Value.slice.injEq] at e
  obtain ⟨rfl, _, rfl⟩ := e
  exact ⟨g, _, rfl, h⟩
theorem rowO_cell {W : World} {B0 g c : Nat} {r : List Opn} (h : W.ownsRow B0 155 7 (.slice (some ⟨g, 0, none⟩) r.length c) r.length (flatO r)) (j i : Nat) (hj : j < r.length) (hi : i < 7) : W.cell? ⟨g, j * 7 + i, none⟩ = (cellsO (r.getD j zOpn))[i]? := by
 rw [h.cellAt (j * 7 + i) (by omega), flatO_at r j i hj hi]
set_option maxRecDepth 100000 in
set_option maxHeartbeats 2000000 in
theorem indexByte_calls (s : ByteArray) (c : Int) (w : World) : Calls Try.prog 163 #[.string s, .int .u8 c] w fun e w' => e = .returned (.int .i64 (Lib.indexByte s.data.toList c.toNat.toUInt8)) ∧ w' = w := by
 go_enter Try.func163, Try.ntmps163
 go_wp2
 rw [run_callFunc_extern Try.func172 (by kernel_rfl) (by kernel_rfl) (by kernel_rfl) (e := Extern.BytealgIndexByte.indexByte) (by kernel_rfl), Lib.run_indexByteString]
 simp only [Result.andThen]
 rw [Oper.upon_value]
 go_wp2
 go_ret
 exact ⟨rfl, rfl⟩
def Finds (s : ByteArray) (ks : List Int) : Prop := ∀ c : Fin 256, decide (0 ≤ Lib.indexByte s.data.toList (c.val : Int).toNat.toUInt8) = ks.contains (c.val : Int)
theorem finds_flow : Finds ⟨#[49, 50, 51, 112, 105]⟩ flowK := by unfold Finds; decide +kernel
theorem finds_n : Finds ⟨#[110]⟩ [110] := by unfold Finds; decide +kernel
theorem finds_t : Finds ⟨#[116]⟩ [116] := by unfold Finds; decide +kernel
def KindsB (r : List Opn) : Prop := ∀ o ∈ r, 0 ≤ o.kind ∧ o.kind ≤ 255
theorem kindsB_at {r : List Opn} (h : KindsB r) (j : Nat) (hj : j < r.length) : 0 ≤ (r.getD j zOpn).kind ∧ (r.getD j zOpn).kind ≤ 255 := by
 rw [List.getD_eq_getElem?_getD, List.getElem?_eq_getElem hj]
 exact h _ (List.getElem_mem hj)
theorem finds_at {s : ByteArray} {ks : List Int} (h : Finds s ks) (c : Int) (h0 : 0 ≤ c) (h1 : c ≤ 255) : decide (0 ≤ Lib.indexByte s.data.toList c.toNat.toUInt8) = ks.contains c := by
 have := h ⟨c.toNat, by omega⟩
 simpa [Int.toNat_of_nonneg h0] using this
set_option maxRecDepth 100000 in
set_option maxHeartbeats 2000000 in
theorem top_none (c : Nat) (A : Option Addr) (w : World) : Calls Try.prog 134 #[.slice A 0 c] w fun e w' => e = .returned (.pointer (some ⟨w.heap.size, 0, none⟩)) ∧ w' = w.alloc (.cells #[.int .u8 0, .int .i64 0, .int .i64 0, .int .i64 0, .bool false, .int .i64 0, .int .i64 0] 155) := by
 go_enter Try.func134, Try.ntmps134
 go_wp2
 go_ret
 exact ⟨rfl, rfl⟩
set_option maxRecDepth 100000 in
set_option maxHeartbeats 2000000 in
theorem top_some (g n c : Nat) (hn : n ≤ 1000000) (w : World) : Calls Try.prog 134 #[.slice (some ⟨g, 0, none⟩) (n + 1) c] w fun e w' => e = .returned (.pointer (some ⟨g, n * 7, none⟩)) ∧ w' = w := by
 have h0 : ((n : Int) + 1 == 0) = false := beq_eq_false_iff_ne.2 (by omega)
 have h1 : (n : Int) < (n : Int) + 1 := by omega
 go_enter Try.func134, Try.ntmps134
 go_wp2
 go_ret
 exact ⟨rfl, rfl⟩
def hasN (k : Int) (r : List Opn) (n : Nat) : Nat := hasP k (r.take n)
theorem hasN_succ (k : Int) (r : List Opn) (n : Nat) (h : n < r.length) : hasN k r (n + 1) = hasN k r n + if ((r.getD n zOpn).kind == k) = true then 1 else 0 := by
 unfold hasN hasP
 rw [List.take_add_one, List.getElem?_eq_getElem h, List.filter_append, List.length_append, List.getD_eq_getElem?_getD, List.getElem?_eq_getElem h]
 simp only [Option.toList_some, Option.getD_some, List.filter_cons, List.filter_nil]
 split <;> rfl
theorem hasN_le (k : Int) (r : List Opn) (n : Nat) : hasN k r n ≤ n := by
 unfold hasN hasP
 have h1 := List.length_filter_le (fun o : Opn => o.kind == k) (r.take n)
 have h2 : (r.take n).length ≤ n := List.length_take_le _ _
 omega
set_option maxRecDepth 100000 in
set_option maxHeartbeats 2000000 in
theorem hasO_calls (B0 : Nat) (v : Value) (r : List Opn) (k : Int) (w : World) (hn : r.length ≤ 1000000) (hr : RowO w B0 v r) :
  Calls Try.prog 135 #[v, .int .u8 k] w fun e w' => e = .returned (.int .i64 (hasP k r)) ∧ Below w.heap.size w w' := by
 obtain ⟨A, c, rfl⟩ := own_slice hr
 have hall : hasP k r = hasN k r r.length := by unfold hasN; rw [List.take_length]
 rw [hall]
 have HR := Lib.hid hr
 obtain ⟨n, hnn⟩ : ∃ n, r.length = n := ⟨_, rfl⟩
 rw [hnn] at hn ⊢
 have HN := Lib.hid hnn
 clear hr hall hnn
 go_enter Try.func135, Try.ntmps135
 go_wp2
 go_loopw [5, 10] (fun v5 v10 wr => ∃ j : Nat, j ≤ n ∧ v10 = .int .i64 j ∧ v5 = .int .i64 (hasN k r j) ∧ Below w.heap.size w wr) (fun _ v _ => n - (intOf v).toNat)
 case atStart => exact ⟨0, Nat.zero_le _, rfl, rfl, Below.refl _ _⟩
 case round =>
  obtain ⟨j, hj, rfl, rfl, hB⟩ := hrel
  by_cases hlt : j < n
  ·have hlt1 : (j : Int) < (n : Int) := by omega
   obtain ⟨g, c', he, ho⟩ := rowO_form HR.out (by have := HN.out; omega)
   simp only [Value.slice.injEq] at he
   obtain ⟨rfl, -, rfl⟩ := he
   have hle := hasN_le k r j
   have hs := Lib.hid (hasN_succ k r j (by have := HN.out; omega))
   have ho2 := pw_own_below ho (hB)
   have q0 := rowO_cell ho2 j 0 (by have := HN.out; omega) (by omega)
   have q1 := rowO_cell ho2 j 1 (by have := HN.out; omega) (by omega)
   have q2 := rowO_cell ho2 j 2 (by have := HN.out; omega) (by omega)
   have q3 := rowO_cell ho2 j 3 (by have := HN.out; omega) (by omega)
   have q4 := rowO_cell ho2 j 4 (by have := HN.out; omega) (by omega)
   have q5 := rowO_cell ho2 j 5 (by have := HN.out; omega) (by omega)
   have q6 := rowO_cell ho2 j 6 (by have := HN.out; omega) (by omega)
   generalize r.getD j zOpn = x at *
   obtain ⟨f0, f1, f2, f3, f4, f5, f6⟩ := x
   simp only [cellsO, List.getElem?_cons_succ, List.getElem?_cons_zero, Nat.add_zero] at q0 q1 q2 q3 q4 q5 q6
   clear ho ho2
   by_cases hk : f0 = k
   ·subst hk
    have hkk : (f0 == f0) = true := beq_self_eq_true _
    go_wp2
    go_roundw
    case rel => exact ⟨j + 1, by omega, by go_num, by rw [hs.out]; simp, hB.alloc hB.size _⟩
    case measure => simp [intOf]; omega
   ·have hkk : (f0 == k) = false := beq_eq_false_iff_ne.2 hk
    go_wp2
    go_roundw
    case rel => exact ⟨j + 1, by omega, by go_num, by rw [hs.out]; simp [hk], hB.alloc hB.size _⟩
    case measure => simp [intOf]; omega
  ·obtain rfl : j = n := by omega
   have hlt1 : ¬ (j : Int) < (j : Int) := by omega
   go_wp2
   go_ret
   exact ⟨rfl, hB⟩
def ptrO (A : Option Addr) : Option Nat → Value
 | none => .pointer none
 | some j => match A with | some a => .pointer (some ⟨a.block, j * 7, none⟩) | none => .pointer none
set_option maxRecDepth 100000 in
set_option maxHeartbeats 2000000 in
theorem around_calls (B0 : Nat) (A : Option Addr) (c : Nat) (r : List Opn) (s : ByteArray) (ks : List Int) (hf : Finds s ks) (w : World) (hn : r.length ≤ 1000000) (hk : KindsB r) (hr : RowO w B0 (.slice A r.length c) r) :
  Calls Try.prog 133 #[.slice A r.length c, .string s] w fun e w' => e = .returned (ptrO A (aroundP ks r r.length)) ∧ w' = w := by
 obtain ⟨R, hR⟩ : ∃ R, aroundP ks r r.length = R := ⟨_, rfl⟩
 rw [hR]
 have HR := Lib.hid hr
 obtain ⟨n, hnn⟩ : ∃ n, r.length = n := ⟨_, rfl⟩
 rw [hnn] at hn hR ⊢
 have HN := Lib.hid hnn
 have HRR := Lib.hid hR
 have HK := Lib.hid hk
 have HF := Lib.hid hf
 clear hr hnn hR hk hf
 go_enter Try.func133, Try.ntmps133
 go_wp2
 go_loop [5] (fun v5 => ∃ j : Nat, j ≤ n ∧ v5 = .int .i64 ((j : Int) - 1) ∧ aroundP ks r j = R) (fun v => (intOf v + 1).toNat)
 case atStart => exact ⟨n, Nat.le_refl _, by go_num, HRR.out⟩
 case round =>
  obtain ⟨j, hj, rfl, ha⟩ := hrel
  have HA := Lib.hid ha
  clear ha
  cases j with
  | zero =>
   go_wp2
   go_ret
   exact ⟨by rw [← HA.out]; rfl, rfl⟩
  | succ j =>
   obtain ⟨g, c', he, ho⟩ := rowO_form HR.out (by have := HN.out; omega)
   simp only [Value.slice.injEq] at he
   obtain ⟨rfl, -, rfl⟩ := he
   have q0 := rowO_cell ho j 0 (by have := HN.out; omega) (by omega)
   have hkb := kindsB_at HK.out j (by have := HN.out; omega)
   have hst : aroundP ks r (j + 1) = if ks.contains (r.getD j zOpn).kind = true then some j else aroundP ks r j := rfl
   rw [HA.out] at hst
   have hfa := finds_at HF.out _ hkb.1 hkb.2
   generalize r.getD j zOpn = x at *
   obtain ⟨f0, f1, f2, f3, f4, f5, f6⟩ := x
   simp only [cellsO, List.getElem?_cons_zero, Nat.add_zero] at q0 hst hfa
   clear ho hkb
   have e1 : (((j + 1 : Nat) : Int) - 1) = (j : Int) := by omega
   rw [e1]
   have hj2 : (j : Int) < (n : Int) := by omega
   have hj0 : (0 : Int) ≤ (j : Int) := by omega
   have HS := Lib.hid hst
   have HFA := Lib.hid hfa
   clear hst hfa e1
   by_cases hc : ks.contains f0 = true
   ·have hd : (0 : Int) ≤ Lib.indexByte s.data.toList f0.toNat.toUInt8 := of_decide_eq_true (by rw [HFA.out, hc])
    generalize hL : Lib.indexByte s.data.toList f0.toNat.toUInt8 = L at *
    have HC := Lib.hid hc
    have HI := Lib.hid hL
    clear hc hL
    go_wp2_with (go_at_call 163; refine (indexByte_calls _ _ _).mono ?_; rintro e w' ⟨rfl, rfl⟩; rw [HI.out])
    go_ret
    refine ⟨?_, rfl⟩
    rw [show R = some j from by rw [HS.out, if_pos HC.out]]
    rfl
   ·have hd : ¬ (0 : Int) ≤ Lib.indexByte s.data.toList f0.toNat.toUInt8 := of_decide_eq_false (by rw [HFA.out]; simpa using hc)
    generalize hL : Lib.indexByte s.data.toList f0.toNat.toUInt8 = L at *
    have HC := Lib.hid hc
    have HI := Lib.hid hL
    clear hc hL
    go_wp2_with (go_at_call 163; refine (indexByte_calls _ _ _).mono ?_; rintro e w' ⟨rfl, rfl⟩; rw [HI.out])
    go_round
    case rel => exact ⟨j, by omega, by go_num, by rw [HS.out, if_neg HC.out]⟩
    case measure => simp [intOf]
end Go.Proofs.Ythcmfjpheanphaa.Pr
namespace Go.Proofs.Ythcmfjpheanphaa.Pr
open Go.RowKit Go.Maps Go.Proofs.YthcmfjpheanphaaW.PrintWords
attribute [local go_sem] Oper.semAt_some
theorem laidOutT : laidOutB Try.prog = true := by kernel_rfl
theorem row169 : (169 : TypeId) < Try.prog.types.size := of_decide_eq_true (by kernel_rfl)
theorem wide169 : (match Try.prog.underlying 169 with | some (.array _ _) | some (.struct _) => true | _ => false) = true := by rw [Try.underlying169]
set_option maxRecDepth 100000 in
theorem law169 : Keyed Try.prog 169 := Keyed.of_law (deep_law_laid laidOutT (m := 2) (by omega) row169 (by kernel_rfl) wide169)
theorem zero3 (w : World) : (zeroValue 3).run Try.prog w = .ok (.int .i64 0) w := by kernel_rfl
def pairV (a b : Int) : Value := .agg #[.int .u8 a, .int .u8 b]
def okI (a b : Int) : Int := if okP a b then 1 else 0
def MapIs (W : World) (m : Nat) : Prop := ∃ n D, W.ownsMap (H := Unit) Try.prog 169 (plainElem Try.prog 3) m n D ∧
 ∀ a b : Int, 0 ≤ a → a ≤ 255 → 0 ≤ b → b ≤ 255 → ∃ kl, keyOf Try.prog 169 (pairV a b) = some kl ∧ D.atKey kl (.lit (.int .i64 0)) = .lit (.int .i64 (okI a b))
theorem map_look {W : World} {m : Nat} (h : MapIs W m) (a b : Int) (a0 : 0 ≤ a) (a1 : a ≤ 255) (b0 : 0 ≤ b) (b1 : b ≤ 255) :
  (Instr.lookup 102 (.map (some m)) (.agg #[.int .u8 a, .int .u8 b]) false).run Try.prog W = .ok (.int .i64 (okI a b)) W := by
 obtain ⟨n, D, ho, hD⟩ := h
 obtain ⟨kl, hk, hat⟩ := hD a b a0 a1 b0 b1
 obtain ⟨c, hrun, hc, _⟩ := ho.lookup_int (t := 102) law169 Try.underlying102 Try.underlying3 (zero3 W) hk
 rw [hat] at hc
 simp only [DataW.lit.injEq, Lit.int.injEq, true_and] at hc
 rw [hc]
 exact hrun
theorem map_move {W W' : World} {m : Nat} (h : MapIs W m) (e : ∀ o, W.heap[m]? = some o → W'.heap[m]? = some o) : MapIs W' m := by
 obtain ⟨n, D, ⟨es, clock, hb, r1, r2, r3⟩, hD⟩ := h
 exact ⟨n, D, ⟨es, clock, e _ hb, r1, r2, r3⟩, hD⟩
theorem map_obj {W : World} {m : Nat} (h : MapIs W m) : ∃ es clock, W.heap[m]? = some (.map es clock) := by
 obtain ⟨n, D, ⟨es, clock, hb, _⟩, _⟩ := h
 exact ⟨es, clock, hb⟩
def flat56 (xs : List S56) : List Value := xs.flatMap fun x => [.int .u8 x.f0, .string x.f1, .int .i64 x.f2, .int .i64 x.f3]
structure BAt (W : World) (B0 g m : Nat) (vr vt : Value) (s : Bld) : Prop where
 base : B0 ≤ g
 blk : W.heap[g]? = some (.cells #[vr, vt, .map (some m)] 104 (0, 0))
 row : RowO W B0 vr s.row
 t : W.ownsRow B0 56 4 vt s.t.length (flat56 s.t)
 map : MapIs W m
theorem BAt.below {W W' : World} {B0 g m : Nat} {vr vt : Value} {s : Bld} (h : BAt W B0 g m vr vt s) (hb : Below W.heap.size W W') : BAt W' B0 g m vr vt s :=
 ⟨h.base, blk_below h.blk hb, pw_own_below h.row hb, pw_own_below h.t hb, map_move h.map fun o ho => blk_below ho hb⟩
theorem top_calls (B0 : Nat) (v : Value) (r : List Opn) (w : World) (hn : r.length ≤ 1000000) (hr : RowO w B0 v r) :
  Calls Try.prog 134 #[v] w fun e w' => ∃ b o, e = .returned (.pointer (some ⟨b, o, none⟩)) ∧ Below w.heap.size w w' ∧ ∀ i, i < 7 → w'.cell? ⟨b, o + i, none⟩ = (cellsO (topP r))[i]? := by
 by_cases h0 : r = []
 ·subst h0
  obtain ⟨A, c, rfl⟩ := own_slice hr
  refine (top_none c A w).mono ?_
  rintro e w' ⟨rfl, rfl⟩
  refine ⟨_, _, rfl, (Below.refl _ _).alloc (Nat.le_refl _) _, fun i hi => ?_⟩
  rw [Nat.zero_add, blk_cell (blk_new w _)]
  exact List.getElem?_toArray
 ·have hp : 0 < r.length := List.length_pos_iff.2 h0
  obtain ⟨g, c, rfl, ho⟩ := rowO_form hr hp
  obtain ⟨n, hn'⟩ : ∃ n, r.length = n + 1 := ⟨r.length - 1, by omega⟩
  have hc := fun i hi => rowO_cell ho n i (by omega) hi
  have ht : r.getD n zOpn = topP r := by
   unfold topP
   rw [List.getLast?_eq_getElem?, List.getD_eq_getElem?_getD, hn']
   rfl
  rw [ht] at hc
  rw [hn']
  refine (top_some g n c (by omega) w).mono ?_
  rintro e w' ⟨rfl, rfl⟩
  exact ⟨_, _, rfl, Below.refl _ _, hc⟩
def mayX (f0 : Int) (f2 : Int) (f4 : Bool) (r : List Opn) (k : Int) : Bool :=
 if (!okP f0 k || (f0 == 105 && f4 && k != 108)) = true then false
 else if (k == 101 || k == 115) = true then hasP k r == 0
 else if (k == 99) = true then decide (f2 < 8)
 else if (k == 110) = true then hasP 110 r == 0 && hasP 99 r == 0 && (match aroundP flowK r r.length with | some j => (r.getD j zOpn).note == 0 | none => false)
 else true
theorem nat_zero (n : Nat) : ((n : Int) == 0) = (n == 0) := by
 rw [Bool.eq_iff_iff]; simp
theorem may_has {f0 f2 : Int} {f4 R : Bool} {r : List Opn} {k : Int} (h : mayX f0 f2 f4 r k = R) (ho : okP f0 k = true) (hk : (k == 101 || k == 115) = true) (h5 : (f0 == 105 && f4 && k != 108) = false) : R = ((hasP k r : Int) == 0) := by
 rw [← h, nat_zero]; unfold mayX; rw [ho, h5, hk]; rfl
theorem may_kids {f0 f2 : Int} {f4 R : Bool} {r : List Opn} (h : mayX f0 f2 f4 r 99 = R) (ho : okP f0 99 = true) (h5 : (f0 == 105 && f4 && (99 : Int) != 108) = false) : R = decide (f2 < 8) := by
 rw [← h]; unfold mayX; rw [ho, h5]; rfl
theorem may_else {f0 f2 : Int} {f4 R : Bool} {r : List Opn} {k : Int} (h : mayX f0 f2 f4 r k = R) (ho : okP f0 k = true) (h5 : (f0 == 105 && f4 && k != 108) = false) (k1 : (k == 101) = false) (k2 : (k == 115) = false) (k3 : (k == 99) = false) (k4 : (k == 110) = false) : R = true := by
 rw [← h]; unfold mayX; rw [ho, h5, k1, k2, k3, k4]; rfl
theorem may_note {f0 f2 : Int} {f4 R : Bool} {r : List Opn} (h : mayX f0 f2 f4 r 110 = R) (ho : okP f0 110 = true) (h5 : (f0 == 105 && f4 && (110 : Int) != 108) = false) :
  R = (((hasP 110 r : Int) == 0) && ((hasP 99 r : Int) == 0) && (match aroundP flowK r r.length with | some j => (r.getD j zOpn).note == 0 | none => false)) := by
 rw [← h, nat_zero, nat_zero]; unfold mayX; rw [ho, h5]; rfl
set_option pp.maxSteps 3000 in
set_option maxRecDepth 100000 in
set_option maxHeartbeats 16000000 in
theorem may_calls (B0 g m : Nat) (vr vt : Value) (s : Bld) (k : Int) (w : World) (hk0 : 0 ≤ k) (hk1 : k ≤ 255) (hn : s.row.length ≤ 1000000) (hkb : KindsB s.row) (hb : BAt w B0 g m vr vt s) :
  Calls Try.prog 104 #[.pointer (some ⟨g, 0, none⟩), .int .u8 k] w fun e w' => e = .returned (.bool (mayP s.row k)) ∧ Below w.heap.size w w' := by
 obtain ⟨A, c, rfl⟩ := own_slice hb.row
 have hg0 := blk_cell hb.blk 0
 simp only [List.getElem?_toArray, List.getElem?_cons_zero] at hg0
 obtain ⟨R, hR⟩ : ∃ R, mayP s.row k = R := ⟨_, rfl⟩
 rw [hR]
 have HB := Lib.hid hb
 have HR := Lib.hid hR
 clear hR hb
 have hkt : 0 ≤ (topP s.row).kind ∧ (topP s.row).kind ≤ 255 := by
  unfold topP
  cases hl : s.row.getLast? with
  | none => exact ⟨by decide, by decide⟩
  | some y => exact hkb y (List.mem_of_getLast? hl)
 go_enter Try.func104, Try.ntmps104
 go_wp2_with (go_at_call 134; refine (top_calls B0 _ s.row _ hn HB.out.row).mono ?_; rintro e w1 ⟨b, o, rfl, hb1, hcc⟩)
 have HB1 := Lib.hid (HB.out.below hb1)
 have hm := map_look HB1.out.map (topP s.row).kind k hkt.1 hkt.2 hk0 hk1
 have hx0 : ∀ i, i < 7 → ∀ W, Below w1.heap.size w1 W → ∀ u, (cellsO (topP s.row))[i]? = some u → W.cell? ⟨b, o + i, none⟩ = some u := fun i hi W hW u hu =>
  (hW.cell (World.block_lt_of_cell? w1 _ ((hcc i hi).trans hu))).trans ((hcc i hi).trans hu)
 have hg1 : ∀ W, Below w1.heap.size w1 W → W.heap[g]? = some (.cells #[.slice A s.row.length c, vt, .map (some m)] 104 (0, 0)) := fun W hW => blk_below HB1.out.blk hW
 have hlk : ∀ W, Below w1.heap.size w1 W → (Instr.lookup 102 (.map (some m)) (.agg #[.int .u8 (topP s.row).kind, .int .u8 k]) false).run Try.prog W = .ok (.int .i64 (okI (topP s.row).kind k)) W := fun W hW =>
  map_look (map_move HB1.out.map fun o ho => blk_below ho hW) _ _ hkt.1 hkt.2 hk0 hk1
 have hmay : mayX (topP s.row).kind (topP s.row).kids (topP s.row).past s.row k = R := HR.out
 generalize topP s.row = x at *
 obtain ⟨f0, f1, f2, f3, f4, f5, f6⟩ := x
 simp only at hmay hlk hkt hm
 have HX := Lib.hid hx0
 have HG := Lib.hid hg1
 have HL := Lib.hid hlk
 have HM := Lib.hid hmay
 have HKB := Lib.hid hkb
 clear hcc hx0 hg1 hlk hm hmay hg0 hkb
 have hlook : okI f0 k = 1 ∧ okP f0 k = true ∨ okI f0 k = 0 ∧ okP f0 k = false := by
  unfold okI
  cases okP f0 k <;> simp
 rcases hlook with ⟨hI, hP⟩ | ⟨hI, hP⟩
 all_goals rw [hI] at HL
 all_goals have HI := Lib.hid (And.intro hI hP)
 all_goals clear hI hP
 ·have hcase : (f0 == 105) = false ∨ (f0 = 105 ∧ f4 = false) ∨ (f0 = 105 ∧ f4 = true ∧ k = 108) ∨ (f0 = 105 ∧ f4 = true ∧ (k != 108) = true) := by
   by_cases h1 : f0 = 105
   ·right
    cases f4
    ·exact .inl ⟨h1, rfl⟩
    ·right
     by_cases h2 : k = 108
     ·exact .inl ⟨h1, rfl, h2⟩
     ·exact .inr ⟨h1, rfl, bne_iff_ne.2 h2⟩
   ·left; exact beq_eq_false_iff_ne.2 h1
  have hkc : k = 101 ∨ k = 115 ∨ k = 99 ∨ k = 110 ∨ ((k == 101) = false ∧ (k == 115) = false ∧ (k == 99) = false ∧ (k == 110) = false) := by
   simp only [beq_eq_false_iff_ne]; omega
  rcases hcase with h5 | ⟨rfl, rfl⟩ | ⟨rfl, rfl, rfl⟩ | ⟨rfl, rfl, h8⟩
  ·rcases hkc with rfl | rfl | rfl | rfl | ⟨k1, k2, k3, k4⟩
   ·refine Go.Det.region_all (fun W => Below w1.heap.size w1 W) (by kernel_rfl) (by kernel_rfl) (below_drew1 (Below.refl _ _)) ?_
    repeat
     apply Go.Det.seqW_cons
     focus
      intro W hS
      replace hS : Below w1.heap.size w1 W := hS
      have g2 := blk_cell (HG.out W hS) 2
      have x0 := HX.out 0 (by omega) W hS _ rfl
      have x4 := HX.out 4 (by omega) W hS _ rfl
      have hl := HL.out W hS
      simp only [List.getElem?_toArray, List.getElem?_cons_succ, List.getElem?_cons_zero, Nat.add_zero] at g2 x0
      go_wp2
      exact Go.Det.AtEnd.mk hS
    refine Go.Det.seqW_nil ?_
    intro W hS
    replace hS : Below w1.heap.size w1 W := hS
    have HBW := Lib.hid (HB1.out.below hS)
    have HBE := Lib.hid (hb1.trans (hS.mono hb1.size))
    have gw0 := blk_cell HBW.out.blk 0
    have x2 := HX.out 2 (by omega) W hS _ rfl
    simp only [List.getElem?_toArray, List.getElem?_cons_succ, List.getElem?_cons_zero, Nat.add_zero] at gw0 x2
    clear hS
    simp only [Exit.then]
    go_wp2_with (go_at_call 135; refine (hasO_calls B0 _ s.row _ _ hn HBW.out.row).mono ?_; rintro e w2 ⟨rfl, hb2⟩)
    go_ret
    refine ⟨?_, HBE.out.trans (hb2.mono HBE.out.size)⟩
    rw [may_has HM.out HI.out.2 (by decide) (by rw [h5]; rfl)]
    rfl
   ·refine Go.Det.region_all (fun W => Below w1.heap.size w1 W) (by kernel_rfl) (by kernel_rfl) (below_drew1 (Below.refl _ _)) ?_
    repeat
     apply Go.Det.seqW_cons
     focus
      intro W hS
      replace hS : Below w1.heap.size w1 W := hS
      have g2 := blk_cell (HG.out W hS) 2
      have x0 := HX.out 0 (by omega) W hS _ rfl
      have x4 := HX.out 4 (by omega) W hS _ rfl
      have hl := HL.out W hS
      simp only [List.getElem?_toArray, List.getElem?_cons_succ, List.getElem?_cons_zero, Nat.add_zero] at g2 x0
      go_wp2
      exact Go.Det.AtEnd.mk hS
    refine Go.Det.seqW_nil ?_
    intro W hS
    replace hS : Below w1.heap.size w1 W := hS
    have HBW := Lib.hid (HB1.out.below hS)
    have HBE := Lib.hid (hb1.trans (hS.mono hb1.size))
    have gw0 := blk_cell HBW.out.blk 0
    have x2 := HX.out 2 (by omega) W hS _ rfl
    simp only [List.getElem?_toArray, List.getElem?_cons_succ, List.getElem?_cons_zero, Nat.add_zero] at gw0 x2
    clear hS
    simp only [Exit.then]
    go_wp2_with (go_at_call 135; refine (hasO_calls B0 _ s.row _ _ hn HBW.out.row).mono ?_; rintro e w2 ⟨rfl, hb2⟩)
    go_ret
    refine ⟨?_, HBE.out.trans (hb2.mono HBE.out.size)⟩
    rw [may_has HM.out HI.out.2 (by decide) (by rw [h5]; rfl)]
    rfl
   ·refine Go.Det.region_all (fun W => Below w1.heap.size w1 W) (by kernel_rfl) (by kernel_rfl) (below_drew1 (Below.refl _ _)) ?_
    repeat
     apply Go.Det.seqW_cons
     focus
      intro W hS
      replace hS : Below w1.heap.size w1 W := hS
      have g2 := blk_cell (HG.out W hS) 2
      have x0 := HX.out 0 (by omega) W hS _ rfl
      have x4 := HX.out 4 (by omega) W hS _ rfl
      have hl := HL.out W hS
      simp only [List.getElem?_toArray, List.getElem?_cons_succ, List.getElem?_cons_zero, Nat.add_zero] at g2 x0
      go_wp2
      exact Go.Det.AtEnd.mk hS
    refine Go.Det.seqW_nil ?_
    intro W hS
    replace hS : Below w1.heap.size w1 W := hS
    have HBW := Lib.hid (HB1.out.below hS)
    have HBE := Lib.hid (hb1.trans (hS.mono hb1.size))
    have gw0 := blk_cell HBW.out.blk 0
    have x2 := HX.out 2 (by omega) W hS _ rfl
    simp only [List.getElem?_toArray, List.getElem?_cons_succ, List.getElem?_cons_zero, Nat.add_zero] at gw0 x2
    clear hS
    simp only [Exit.then]
    go_wp2
    go_ret
    refine ⟨?_, HBE.out⟩
    rw [may_kids HM.out HI.out.2 (by rw [h5]; rfl)]
    rfl
   ·refine Go.Det.region_all (fun W => Below w1.heap.size w1 W) (by kernel_rfl) (by kernel_rfl) (below_drew1 (Below.refl _ _)) ?_
    repeat
     apply Go.Det.seqW_cons
     focus
      intro W hS
      replace hS : Below w1.heap.size w1 W := hS
      have g2 := blk_cell (HG.out W hS) 2
      have x0 := HX.out 0 (by omega) W hS _ rfl
      have x4 := HX.out 4 (by omega) W hS _ rfl
      have hl := HL.out W hS
      simp only [List.getElem?_toArray, List.getElem?_cons_succ, List.getElem?_cons_zero, Nat.add_zero] at g2 x0
      go_wp2
      exact Go.Det.AtEnd.mk hS
    refine Go.Det.seqW_nil ?_
    intro W hS
    replace hS : Below w1.heap.size w1 W := hS
    have HBW := Lib.hid (HB1.out.below hS)
    have HBE := Lib.hid (hb1.trans (hS.mono hb1.size))
    have gw0 := blk_cell HBW.out.blk 0
    have x2 := HX.out 2 (by omega) W hS _ rfl
    simp only [List.getElem?_toArray, List.getElem?_cons_succ, List.getElem?_cons_zero, Nat.add_zero] at gw0 x2
    clear hS
    simp only [Exit.then]
    have hlen := hn
    cases hA : aroundP flowK s.row s.row.length with
    | none =>
     have hAC := around_calls B0 A c s.row _ _ finds_flow W hn HKB.out HBW.out.row
     rw [hA] at hAC
     have HAC := Lib.hid hAC
     clear hAC
     cases h1 : ((hasP 110 s.row : Int) == 0)
     ·go_wp2_with (first | (go_at_call 133; (with_reducible refine HAC.out.mono ?_); rintro e wa ⟨rfl, rfl⟩; simp only [ptrO]) | (go_at_call 135; (with_reducible refine (hasO_calls B0 _ s.row 110 _ hn HBW.out.row).mono ?_); rintro e w2 ⟨rfl, hb2⟩))
      go_ret
      refine ⟨?_, HBE.out.trans (hb2.mono HBE.out.size)⟩
      rw [may_note HM.out HI.out.2 (by rw [h5]; rfl), h1]
      rfl
     ·have gw0' := fun (w2 : World) (hb2 : Below W.heap.size W w2) => blk_cell (HBW.out.below hb2).blk 0
      simp only [List.getElem?_toArray, List.getElem?_cons_zero] at gw0'
      have GW := Lib.hid gw0'
      clear gw0'
      cases h2 : ((hasP 99 s.row : Int) == 0)
      all_goals
       go_wp2_with (first | (go_at_call 133; (with_reducible refine HAC.out.mono ?_); rintro e wa ⟨rfl, rfl⟩; simp only [ptrO]) | (go_at_call 135; (with_reducible refine (hasO_calls B0 _ s.row 110 _ hn HBW.out.row).mono ?_); rintro e w2 ⟨rfl, hb2⟩; have gw2 := GW.out _ hb2) | (go_at_call 135; (with_reducible refine (hasO_calls B0 _ s.row 99 _ hn (HBW.out.below hb2).row).mono ?_); rintro e w3 ⟨rfl, hb3⟩))
       go_ret
       refine ⟨?_, (HBE.out.trans (hb2.mono HBE.out.size)).trans (hb3.mono (Nat.le_trans HBE.out.size hb2.size))⟩
       rw [may_note HM.out HI.out.2 (by rw [h5]; rfl), h1, h2, hA]
       rfl
    | some j =>
     have hjl := aroundP_lt _ _ _ _ hA
     obtain ⟨ga, ca, hae, hao⟩ := rowO_form HBW.out.row (by omega)
     simp only [Value.slice.injEq] at hae
     obtain ⟨rfl, -, rfl⟩ := hae
     have hAC := around_calls B0 _ c s.row _ _ finds_flow W hn HKB.out HBW.out.row
     rw [hA] at hAC
     have HAC := Lib.hid hAC
     clear hAC hao
     cases h1 : ((hasP 110 s.row : Int) == 0)
     ·go_wp2_with (first | (go_at_call 133; (with_reducible refine HAC.out.mono ?_); rintro e wa ⟨rfl, rfl⟩; simp only [ptrO]) | (go_at_call 135; (with_reducible refine (hasO_calls B0 _ s.row 110 _ hn HBW.out.row).mono ?_); rintro e w2 ⟨rfl, hb2⟩))
      go_ret
      refine ⟨?_, HBE.out.trans (hb2.mono HBE.out.size)⟩
      rw [may_note HM.out HI.out.2 (by rw [h5]; rfl), h1]
      rfl
     ·have gw0' := fun (w2 : World) (hb2 : Below W.heap.size W w2) => blk_cell (HBW.out.below hb2).blk 0
      have gn := fun (w2 : World) (hb2 : Below W.heap.size W w2) => rowO_cell (HBW.out.below hb2).row j 3 hjl (by omega)
      simp only [List.getElem?_toArray, List.getElem?_cons_zero] at gw0'
      simp only [cellsO, List.getElem?_cons_succ, List.getElem?_cons_zero] at gn
      obtain ⟨nt, hnt⟩ : ∃ nt, (s.row.getD j zOpn).note = nt := ⟨_, rfl⟩
      rw [hnt] at gn
      have HNT := Lib.hid hnt
      clear hnt
      have GW := Lib.hid gw0'
      have GN := Lib.hid gn
      clear gw0' gn
      cases h2 : ((hasP 99 s.row : Int) == 0)
      all_goals
       go_wp2_with (first | (go_at_call 133; (with_reducible refine HAC.out.mono ?_); rintro e wa ⟨rfl, rfl⟩; simp only [ptrO]) | (go_at_call 135; (with_reducible refine (hasO_calls B0 _ s.row 110 _ hn HBW.out.row).mono ?_); rintro e w2 ⟨rfl, hb2⟩; have gw2 := GW.out _ hb2) | (go_at_call 135; (with_reducible refine (hasO_calls B0 _ s.row 99 _ hn (HBW.out.below hb2).row).mono ?_); rintro e w3 ⟨rfl, hb3⟩; have gn3 := GN.out _ (hb2.trans (hb3.mono hb2.size))))
       go_ret
       refine ⟨?_, (HBE.out.trans (hb2.mono HBE.out.size)).trans (hb3.mono (Nat.le_trans HBE.out.size hb2.size))⟩
       rw [may_note HM.out HI.out.2 (by rw [h5]; rfl), h1, h2, hA]
       simp only [HNT.out]
       rfl
   ·refine Go.Det.region_all (fun W => Below w1.heap.size w1 W) (by kernel_rfl) (by kernel_rfl) (below_drew1 (Below.refl _ _)) ?_
    repeat
     apply Go.Det.seqW_cons
     focus
      intro W hS
      replace hS : Below w1.heap.size w1 W := hS
      have g2 := blk_cell (HG.out W hS) 2
      have x0 := HX.out 0 (by omega) W hS _ rfl
      have x4 := HX.out 4 (by omega) W hS _ rfl
      have hl := HL.out W hS
      simp only [List.getElem?_toArray, List.getElem?_cons_succ, List.getElem?_cons_zero, Nat.add_zero] at g2 x0
      go_wp2
      exact Go.Det.AtEnd.mk hS
    refine Go.Det.seqW_nil ?_
    intro W hS
    replace hS : Below w1.heap.size w1 W := hS
    have HBW := Lib.hid (HB1.out.below hS)
    have HBE := Lib.hid (hb1.trans (hS.mono hb1.size))
    have gw0 := blk_cell HBW.out.blk 0
    have x2 := HX.out 2 (by omega) W hS _ rfl
    simp only [List.getElem?_toArray, List.getElem?_cons_succ, List.getElem?_cons_zero, Nat.add_zero] at gw0 x2
    clear hS
    simp only [Exit.then]
    go_wp2
    go_ret
    refine ⟨?_, HBE.out⟩
    rw [may_else HM.out HI.out.2 (by rw [h5]; rfl) k1 k2 k3 k4]
    rfl
  ·rcases hkc with rfl | rfl | rfl | rfl | ⟨k1, k2, k3, k4⟩
   ·refine Go.Det.region_all (fun W => Below w1.heap.size w1 W) (by kernel_rfl) (by kernel_rfl) (below_drew1 (Below.refl _ _)) ?_
    repeat
     apply Go.Det.seqW_cons
     focus
      intro W hS
      replace hS : Below w1.heap.size w1 W := hS
      have g2 := blk_cell (HG.out W hS) 2
      have x0 := HX.out 0 (by omega) W hS _ rfl
      have x4 := HX.out 4 (by omega) W hS _ rfl
      have hl := HL.out W hS
      simp only [List.getElem?_toArray, List.getElem?_cons_succ, List.getElem?_cons_zero, Nat.add_zero] at g2 x0
      go_wp2
      exact Go.Det.AtEnd.mk hS
    refine Go.Det.seqW_nil ?_
    intro W hS
    replace hS : Below w1.heap.size w1 W := hS
    have HBW := Lib.hid (HB1.out.below hS)
    have HBE := Lib.hid (hb1.trans (hS.mono hb1.size))
    have gw0 := blk_cell HBW.out.blk 0
    have x2 := HX.out 2 (by omega) W hS _ rfl
    simp only [List.getElem?_toArray, List.getElem?_cons_succ, List.getElem?_cons_zero, Nat.add_zero] at gw0 x2
    clear hS
    simp only [Exit.then]
    go_wp2_with (go_at_call 135; refine (hasO_calls B0 _ s.row _ _ hn HBW.out.row).mono ?_; rintro e w2 ⟨rfl, hb2⟩)
    go_ret
    refine ⟨?_, HBE.out.trans (hb2.mono HBE.out.size)⟩
    rw [may_has HM.out HI.out.2 (by decide) (by rfl)]
    rfl
   ·refine Go.Det.region_all (fun W => Below w1.heap.size w1 W) (by kernel_rfl) (by kernel_rfl) (below_drew1 (Below.refl _ _)) ?_
    repeat
     apply Go.Det.seqW_cons
     focus
      intro W hS
      replace hS : Below w1.heap.size w1 W := hS
      have g2 := blk_cell (HG.out W hS) 2
      have x0 := HX.out 0 (by omega) W hS _ rfl
      have x4 := HX.out 4 (by omega) W hS _ rfl
      have hl := HL.out W hS
      simp only [List.getElem?_toArray, List.getElem?_cons_succ, List.getElem?_cons_zero, Nat.add_zero] at g2 x0
      go_wp2
      exact Go.Det.AtEnd.mk hS
    refine Go.Det.seqW_nil ?_
    intro W hS
    replace hS : Below w1.heap.size w1 W := hS
    have HBW := Lib.hid (HB1.out.below hS)
    have HBE := Lib.hid (hb1.trans (hS.mono hb1.size))
    have gw0 := blk_cell HBW.out.blk 0
    have x2 := HX.out 2 (by omega) W hS _ rfl
    simp only [List.getElem?_toArray, List.getElem?_cons_succ, List.getElem?_cons_zero, Nat.add_zero] at gw0 x2
    clear hS
    simp only [Exit.then]
    go_wp2_with (go_at_call 135; refine (hasO_calls B0 _ s.row _ _ hn HBW.out.row).mono ?_; rintro e w2 ⟨rfl, hb2⟩)
    go_ret
    refine ⟨?_, HBE.out.trans (hb2.mono HBE.out.size)⟩
    rw [may_has HM.out HI.out.2 (by decide) (by rfl)]
    rfl
   ·refine Go.Det.region_all (fun W => Below w1.heap.size w1 W) (by kernel_rfl) (by kernel_rfl) (below_drew1 (Below.refl _ _)) ?_
    repeat
     apply Go.Det.seqW_cons
     focus
      intro W hS
      replace hS : Below w1.heap.size w1 W := hS
      have g2 := blk_cell (HG.out W hS) 2
      have x0 := HX.out 0 (by omega) W hS _ rfl
      have x4 := HX.out 4 (by omega) W hS _ rfl
      have hl := HL.out W hS
      simp only [List.getElem?_toArray, List.getElem?_cons_succ, List.getElem?_cons_zero, Nat.add_zero] at g2 x0
      go_wp2
      exact Go.Det.AtEnd.mk hS
    refine Go.Det.seqW_nil ?_
    intro W hS
    replace hS : Below w1.heap.size w1 W := hS
    have HBW := Lib.hid (HB1.out.below hS)
    have HBE := Lib.hid (hb1.trans (hS.mono hb1.size))
    have gw0 := blk_cell HBW.out.blk 0
    have x2 := HX.out 2 (by omega) W hS _ rfl
    simp only [List.getElem?_toArray, List.getElem?_cons_succ, List.getElem?_cons_zero, Nat.add_zero] at gw0 x2
    clear hS
    simp only [Exit.then]
    go_wp2
    go_ret
    refine ⟨?_, HBE.out⟩
    rw [may_kids HM.out HI.out.2 (by rfl)]
    rfl
   ·refine Go.Det.region_all (fun W => Below w1.heap.size w1 W) (by kernel_rfl) (by kernel_rfl) (below_drew1 (Below.refl _ _)) ?_
    repeat
     apply Go.Det.seqW_cons
     focus
      intro W hS
      replace hS : Below w1.heap.size w1 W := hS
      have g2 := blk_cell (HG.out W hS) 2
      have x0 := HX.out 0 (by omega) W hS _ rfl
      have x4 := HX.out 4 (by omega) W hS _ rfl
      have hl := HL.out W hS
      simp only [List.getElem?_toArray, List.getElem?_cons_succ, List.getElem?_cons_zero, Nat.add_zero] at g2 x0
      go_wp2
      exact Go.Det.AtEnd.mk hS
    refine Go.Det.seqW_nil ?_
    intro W hS
    replace hS : Below w1.heap.size w1 W := hS
    have HBW := Lib.hid (HB1.out.below hS)
    have HBE := Lib.hid (hb1.trans (hS.mono hb1.size))
    have gw0 := blk_cell HBW.out.blk 0
    have x2 := HX.out 2 (by omega) W hS _ rfl
    simp only [List.getElem?_toArray, List.getElem?_cons_succ, List.getElem?_cons_zero, Nat.add_zero] at gw0 x2
    clear hS
    simp only [Exit.then]
    have hlen := hn
    cases hA : aroundP flowK s.row s.row.length with
    | none =>
     have hAC := around_calls B0 A c s.row _ _ finds_flow W hn HKB.out HBW.out.row
     rw [hA] at hAC
     have HAC := Lib.hid hAC
     clear hAC
     cases h1 : ((hasP 110 s.row : Int) == 0)
     ·go_wp2_with (first | (go_at_call 133; (with_reducible refine HAC.out.mono ?_); rintro e wa ⟨rfl, rfl⟩; simp only [ptrO]) | (go_at_call 135; (with_reducible refine (hasO_calls B0 _ s.row 110 _ hn HBW.out.row).mono ?_); rintro e w2 ⟨rfl, hb2⟩))
      go_ret
      refine ⟨?_, HBE.out.trans (hb2.mono HBE.out.size)⟩
      rw [may_note HM.out HI.out.2 (by rfl), h1]
      rfl
     ·have gw0' := fun (w2 : World) (hb2 : Below W.heap.size W w2) => blk_cell (HBW.out.below hb2).blk 0
      simp only [List.getElem?_toArray, List.getElem?_cons_zero] at gw0'
      have GW := Lib.hid gw0'
      clear gw0'
      cases h2 : ((hasP 99 s.row : Int) == 0)
      all_goals
       go_wp2_with (first | (go_at_call 133; (with_reducible refine HAC.out.mono ?_); rintro e wa ⟨rfl, rfl⟩; simp only [ptrO]) | (go_at_call 135; (with_reducible refine (hasO_calls B0 _ s.row 110 _ hn HBW.out.row).mono ?_); rintro e w2 ⟨rfl, hb2⟩; have gw2 := GW.out _ hb2) | (go_at_call 135; (with_reducible refine (hasO_calls B0 _ s.row 99 _ hn (HBW.out.below hb2).row).mono ?_); rintro e w3 ⟨rfl, hb3⟩))
       go_ret
       refine ⟨?_, (HBE.out.trans (hb2.mono HBE.out.size)).trans (hb3.mono (Nat.le_trans HBE.out.size hb2.size))⟩
       rw [may_note HM.out HI.out.2 (by rfl), h1, h2, hA]
       rfl
    | some j =>
     have hjl := aroundP_lt _ _ _ _ hA
     obtain ⟨ga, ca, hae, hao⟩ := rowO_form HBW.out.row (by omega)
     simp only [Value.slice.injEq] at hae
     obtain ⟨rfl, -, rfl⟩ := hae
     have hAC := around_calls B0 _ c s.row _ _ finds_flow W hn HKB.out HBW.out.row
     rw [hA] at hAC
     have HAC := Lib.hid hAC
     clear hAC hao
     cases h1 : ((hasP 110 s.row : Int) == 0)
     ·go_wp2_with (first | (go_at_call 133; (with_reducible refine HAC.out.mono ?_); rintro e wa ⟨rfl, rfl⟩; simp only [ptrO]) | (go_at_call 135; (with_reducible refine (hasO_calls B0 _ s.row 110 _ hn HBW.out.row).mono ?_); rintro e w2 ⟨rfl, hb2⟩))
      go_ret
      refine ⟨?_, HBE.out.trans (hb2.mono HBE.out.size)⟩
      rw [may_note HM.out HI.out.2 (by rfl), h1]
      rfl
     ·have gw0' := fun (w2 : World) (hb2 : Below W.heap.size W w2) => blk_cell (HBW.out.below hb2).blk 0
      have gn := fun (w2 : World) (hb2 : Below W.heap.size W w2) => rowO_cell (HBW.out.below hb2).row j 3 hjl (by omega)
      simp only [List.getElem?_toArray, List.getElem?_cons_zero] at gw0'
      simp only [cellsO, List.getElem?_cons_succ, List.getElem?_cons_zero] at gn
      obtain ⟨nt, hnt⟩ : ∃ nt, (s.row.getD j zOpn).note = nt := ⟨_, rfl⟩
      rw [hnt] at gn
      have HNT := Lib.hid hnt
      clear hnt
      have GW := Lib.hid gw0'
      have GN := Lib.hid gn
      clear gw0' gn
      cases h2 : ((hasP 99 s.row : Int) == 0)
      all_goals
       go_wp2_with (first | (go_at_call 133; (with_reducible refine HAC.out.mono ?_); rintro e wa ⟨rfl, rfl⟩; simp only [ptrO]) | (go_at_call 135; (with_reducible refine (hasO_calls B0 _ s.row 110 _ hn HBW.out.row).mono ?_); rintro e w2 ⟨rfl, hb2⟩; have gw2 := GW.out _ hb2) | (go_at_call 135; (with_reducible refine (hasO_calls B0 _ s.row 99 _ hn (HBW.out.below hb2).row).mono ?_); rintro e w3 ⟨rfl, hb3⟩; have gn3 := GN.out _ (hb2.trans (hb3.mono hb2.size))))
       go_ret
       refine ⟨?_, (HBE.out.trans (hb2.mono HBE.out.size)).trans (hb3.mono (Nat.le_trans HBE.out.size hb2.size))⟩
       rw [may_note HM.out HI.out.2 (by rfl), h1, h2, hA]
       simp only [HNT.out]
       rfl
   ·refine Go.Det.region_all (fun W => Below w1.heap.size w1 W) (by kernel_rfl) (by kernel_rfl) (below_drew1 (Below.refl _ _)) ?_
    repeat
     apply Go.Det.seqW_cons
     focus
      intro W hS
      replace hS : Below w1.heap.size w1 W := hS
      have g2 := blk_cell (HG.out W hS) 2
      have x0 := HX.out 0 (by omega) W hS _ rfl
      have x4 := HX.out 4 (by omega) W hS _ rfl
      have hl := HL.out W hS
      simp only [List.getElem?_toArray, List.getElem?_cons_succ, List.getElem?_cons_zero, Nat.add_zero] at g2 x0
      go_wp2
      exact Go.Det.AtEnd.mk hS
    refine Go.Det.seqW_nil ?_
    intro W hS
    replace hS : Below w1.heap.size w1 W := hS
    have HBW := Lib.hid (HB1.out.below hS)
    have HBE := Lib.hid (hb1.trans (hS.mono hb1.size))
    have gw0 := blk_cell HBW.out.blk 0
    have x2 := HX.out 2 (by omega) W hS _ rfl
    simp only [List.getElem?_toArray, List.getElem?_cons_succ, List.getElem?_cons_zero, Nat.add_zero] at gw0 x2
    clear hS
    simp only [Exit.then]
    go_wp2
    go_ret
    refine ⟨?_, HBE.out⟩
    rw [may_else HM.out HI.out.2 (by rfl) k1 k2 k3 k4]
    rfl
  ·clear hkc
   refine Go.Det.region_all (fun W => Below w1.heap.size w1 W) (by kernel_rfl) (by kernel_rfl) (below_drew1 (Below.refl _ _)) ?_
   repeat
    apply Go.Det.seqW_cons
    focus
     intro W hS
     replace hS : Below w1.heap.size w1 W := hS
     have g2 := blk_cell (HG.out W hS) 2
     have x0 := HX.out 0 (by omega) W hS _ rfl
     have x4 := HX.out 4 (by omega) W hS _ rfl
     have hl := HL.out W hS
     simp only [List.getElem?_toArray, List.getElem?_cons_succ, List.getElem?_cons_zero, Nat.add_zero] at g2 x0
     go_wp2
     exact Go.Det.AtEnd.mk hS
   refine Go.Det.seqW_nil ?_
   intro W hS
   replace hS : Below w1.heap.size w1 W := hS
   have HBW := Lib.hid (HB1.out.below hS)
   have HBE := Lib.hid (hb1.trans (hS.mono hb1.size))
   have gw0 := blk_cell HBW.out.blk 0
   have x2 := HX.out 2 (by omega) W hS _ rfl
   simp only [List.getElem?_toArray, List.getElem?_cons_succ, List.getElem?_cons_zero, Nat.add_zero] at gw0 x2
   clear hS
   simp only [Exit.then]
   go_wp2
   go_ret
   refine ⟨?_, HBE.out⟩
   rw [may_else HM.out HI.out.2 (by rfl) rfl rfl rfl rfl]
   rfl
  ·clear hkc
   refine Go.Det.region_all (fun W => Below w1.heap.size w1 W) (by kernel_rfl) (by kernel_rfl) (below_drew1 (Below.refl _ _)) ?_
   repeat
    apply Go.Det.seqW_cons
    focus
     intro W hS
     replace hS : Below w1.heap.size w1 W := hS
     have g2 := blk_cell (HG.out W hS) 2
     have x0 := HX.out 0 (by omega) W hS _ rfl
     have x4 := HX.out 4 (by omega) W hS _ rfl
     have hl := HL.out W hS
     simp only [List.getElem?_toArray, List.getElem?_cons_succ, List.getElem?_cons_zero, Nat.add_zero] at g2 x0
     go_wp2
     exact Go.Det.AtEnd.mk hS
   refine Go.Det.seqW_nil ?_
   intro W hS
   replace hS : Below w1.heap.size w1 W := hS
   simp only [Exit.then]
   go_wp2
   go_ret
   refine ⟨?_, hb1.trans (hS.mono hb1.size)⟩
   have := HM.out
   unfold mayX at this
   rw [HI.out.2, h8] at this
   rw [← this]
   rfl
 ·refine Go.Det.region_all (fun W => Below w1.heap.size w1 W) (by kernel_rfl) (by kernel_rfl) (below_drew1 (Below.refl _ _)) ?_
  repeat
   apply Go.Det.seqW_cons
   focus
    intro W hS
    replace hS : Below w1.heap.size w1 W := hS
    have g2 := blk_cell (HG.out W hS) 2
    have x0 := HX.out 0 (by omega) W hS _ rfl
    have hl := HL.out W hS
    simp only [List.getElem?_toArray, List.getElem?_cons_succ, List.getElem?_cons_zero, Nat.add_zero] at g2 x0
    go_wp2
    exact Go.Det.AtEnd.mk hS
  refine Go.Det.seqW_nil ?_
  intro W hS
  replace hS : Below w1.heap.size w1 W := hS
  simp only [Exit.then]
  go_wp2
  go_ret
  refine ⟨?_, hb1.trans (hS.mono hb1.size)⟩
  have := HM.out
  unfold mayX at this
  rw [HI.out.2] at this
  rw [← this]
  rfl
def isBT : Obj → Bool
 | .cells _ t _ => t == 104 || t == 155 || t == 56
 | _ => false
def KeepK (w w' : World) : Prop := ∀ (i : Nat) (o : Obj), w.heap[i]? = some o → isBT o = false → w'.heap[i]? = some o
theorem KeepK.refl (w : World) : KeepK w w := fun _ _ h _ => h
theorem KeepK.trans {a b c : World} (h : KeepK a b) (k : KeepK b c) : KeepK a c := fun i o hi ho => k i o (h i o hi ho) ho
theorem KeepK.below {w w' : World} (h : Below w.heap.size w w') : KeepK w w' := fun i o hi _ => blk_below hi h
theorem KeepK.drew {w w' : World} (h : KeepK w w') : KeepK w w'.drew := h
theorem KeepK.set {w : World} {p : Addr} {o : Obj} (h : w.heap[p.block]? = some o) (ho : isBT o = true) (u : Value) : KeepK w (w.setCell p u) := fun i o' hi hn => by
 have hne : i ≠ p.block := fun e => by
  subst e
  rw [h] at hi
  simp only [Option.some.injEq] at hi
  subst hi
  rw [ho] at hn
  cases hn
 rw [Below.heap_setCell _ _ _ _ hne]
 exact hi
theorem KeepK.grown {w w' : World} {row : Option Nat} (h : w.grownBy w' row) (hr : ∀ r, row = some r → ∃ o, w.heap[r]? = some o ∧ isBT o = true) : KeepK w w' := fun i o hi hn => by
 refine blk_grown hi h fun e => ?_
 obtain ⟨o', h1, h2⟩ := hr i e.symm
 rw [h1] at hi
 simp only [Option.some.injEq] at hi
 subst hi
 rw [h2] at hn
 cases hn
theorem flat56_length (xs : List S56) : (flat56 xs).length = xs.length * 4 := by
 induction xs with
 | nil => rfl
 | cons x xs ih => simp [flat56] at ih ⊢; omega
theorem flat56_snoc (xs : List S56) (x : S56) : flat56 (xs ++ [x]) = flat56 xs ++ [.int .u8 x.f0, .string x.f1, .int .i64 x.f2, .int .i64 x.f3] := by simp [flat56]
theorem BAt.setO {w : World} {B0 g m gr c : Nat} {vt : Value} {s : Bld} (h : BAt w B0 g m (.slice (some ⟨gr, 0, none⟩) s.row.length c) vt s) (j i : Nat) (hj : j < s.row.length) (hi : i < 7) (f : Opn → Opn) (u : Value)
  (hf : cellsO (f (s.row.getD j zOpn)) = (cellsO (s.row.getD j zOpn)).set i u) :
  BAt (w.setCell ⟨gr, j * 7 + i, none⟩ u) B0 g m (.slice (some ⟨gr, 0, none⟩) s.row.length c) vt ⟨s.row.modify j f, s.t⟩ ∧ Below B0 w (w.setCell ⟨gr, j * 7 + i, none⟩ u) ∧ KeepK w (w.setCell ⟨gr, j * 7 + i, none⟩ u) := by
 have hrow : w.ownsRow B0 155 7 (.slice (some ⟨gr, 0, none⟩) s.row.length c) s.row.length (flatO s.row) := h.row
 obtain ⟨cs, hcs⟩ := own_typed hrow gr rfl
 have hb0 := own_base hrow gr rfl
 have hne : g ≠ gr := blk_ne h.blk hcs (by decide)
 obtain ⟨es, clock, hm⟩ := map_obj h.map
 have hmne : m ≠ gr := fun e => by subst e; rw [hm] at hcs; cases hcs
 refine ⟨⟨h.base, blk_far h.blk hne _, ?_, ?_, map_move h.map fun o ho => ?_⟩, (Below.refl B0 w).setCell hb0 _, KeepK.set (p := ⟨gr, j * 7 + i, none⟩) hcs (by rfl) _⟩
 ·have := (hrow.stored (j * 7 + i) u).1
  rw [flatO_mod f i hi u s.row j hj hf] at this
  unfold RowO
  simp only [List.length_modify]
  exact this
 ·refine own_setCell h.t ?_ _
  have := own_type_ne hrow h.t (by decide)
  rcases this with h0 | h0
  ·cases h0
  ·exact h0
 ·rw [Below.heap_setCell _ _ _ _ hmne]
  exact ho
theorem cells_newT (w : World) (cs : List Value) (t : TypeId) : ∀ j u, cs[j]? = some u → (w.alloc (.cells cs.toArray t)).cell? ((⟨w.heap.size, 0, none⟩ : Addr).add j) = some u := by
 intro j u hu
 rw [show (⟨w.heap.size, 0, none⟩ : Addr).add j = ⟨w.heap.size, j, none⟩ from by unfold Addr.add; split <;> simp_all, blk_cell (blk_new w _) j]
 exact (List.getElem?_toArray).trans hu
def nodeC (x : S56) : Array Value := #[.int .u8 x.f0, .string x.f1, .int .i64 x.f2, .int .i64 x.f3]
def AddTo (B0 g m : Nat) (vr : Value) (s : Bld) (w w' : World) : Prop := ∃ vt', BAt w' B0 g m vr vt' s ∧ Below B0 w w' ∧ KeepK w w'
theorem add_end {w W : World} {B0 g m nt ct cr : Nat} {A At A' : Option Addr} {c' : Nat} {r : List Opn} {t : List S56} {x : S56} {W4 : World}
  (h : BAt W B0 g m (.slice A nt cr) (.slice At t.length ct) ⟨r, t⟩) (hg : (W.alloc (.cells (nodeC x) 56)).grownBy W4 (Value.slice At t.length ct).ownBlock)
  (ho : W4.ownsRow B0 56 4 (.slice A' (t.length + 1) c') (t.length + 1) (flat56 t ++ [.int .u8 x.f0, .string x.f1, .int .i64 x.f2, .int .i64 x.f3])) (hlt : w.heap.size < W.heap.size) (hB : B0 ≤ W.heap.size) :
  W4.heap[g]? = some (.cells #[.slice A nt cr, .slice At t.length ct, .map (some m)] 104 (0, 0)) ∧
  BAt (W4.setCell ⟨g, 1, none⟩ (.slice A' (t.length + 1) c')) B0 g m (.slice A nt cr) (.slice A' (t.length + 1) c') ⟨r, t ++ [x]⟩ ∧
  (Below B0 W (W4.setCell ⟨g, 1, none⟩ (.slice A' (t.length + 1) c')) ∧ KeepK W (W4.setCell ⟨g, 1, none⟩ (.slice A' (t.length + 1) c'))) := by
 have hne : some g ≠ (Value.slice At t.length ct).ownBlock := own_ne h.t h.blk (by decide)
 have hb4 : W4.heap[g]? = some (.cells #[.slice A nt cr, .slice At t.length ct, .map (some m)] 104 (0, 0)) := blk_grown (blk_alloc h.blk _) hg hne
 have hblk : (W4.setCell ⟨g, 1, none⟩ (.slice A' (t.length + 1) c')).heap[g]? = some (.cells #[.slice A nt cr, .slice A' (t.length + 1) c', .map (some m)] 104 (0, 0)) := blk_put hb4 1 _ rfl
 have hrow : RowO W B0 (.slice A nt cr) r := h.row
 have htr := own_type_ne hrow h.t (by decide)
 have hr4 : W4.ownsRow B0 155 7 (.slice A nt cr) r.length (flatO r) := own_other (own_alloc hrow _) hg htr
 have hgr := own_ne hr4 hb4 (by decide)
 have hgt := own_ne ho hb4 (by decide)
 obtain ⟨es, clock, hm⟩ := map_obj h.map
 have hmt : some m ≠ (Value.slice At t.length ct).ownBlock := fun e => by
  obtain ⟨cs, hcs⟩ := own_typed h.t m e.symm
  rw [hm] at hcs
  cases hcs
 have hmg : m ≠ g := fun e => by
  subst e
  rw [h.blk] at hm
  cases hm
 refine ⟨hb4, ⟨h.base, hblk, own_setCell hr4 (p := ⟨g, 1, none⟩) hgr _, ?_, map_move h.map fun o ho' => ?_⟩, ?_, ?_⟩
 ·have := own_setCell ho (p := ⟨g, 1, none⟩) hgt (.slice A' (t.length + 1) c')
  show World.ownsRow _ B0 56 4 _ (t ++ [x]).length (flat56 (t ++ [x]))
  rw [flat56_snoc, List.length_append]
  exact this
 ·rw [Below.heap_setCell _ _ _ _ hmg]
  exact blk_grown (blk_alloc ho' _) hg hmt
 ·refine Below.setCell ?_ h.base _
  have h1 : Below B0 W (W.alloc (.cells (nodeC x) 56)) := (Below.refl B0 W).alloc hB _
  refine pw_below_grown h1 _ (by simp; omega) hg fun k hk => ?_
  exact own_base h.t k hk
 ·refine KeepK.trans (KeepK.trans (KeepK.below ((Below.refl _ W).alloc (Nat.le_refl _) (.cells (nodeC x) 56))) (KeepK.grown hg fun k hk => ?_)) (KeepK.set (p := ⟨g, 1, none⟩) hb4 rfl _)
  obtain ⟨cs, hcs⟩ := own_typed (own_alloc h.t (.cells (nodeC x) 56)) k hk
  exact ⟨_, hcs, rfl⟩
set_option pp.maxSteps 3000 in
set_option maxRecDepth 100000 in
set_option maxHeartbeats 4000000 in
theorem add_calls (B0 g m : Nat) (vr vt : Value) (s : Bld) (x : S56) (w : World) (hB0 : B0 ≤ w.heap.size) (hn : s.row.length ≤ 1000000) (hnt : s.t.length ≤ 1000000) (hb : BAt w B0 g m vr vt s) :
  Calls Try.prog 132 #[.pointer (some ⟨g, 0, none⟩), .agg #[.int .u8 x.f0, .string x.f1, .int .i64 x.f2, .int .i64 x.f3]] w fun e w' =>
   e = .returned (.int .i64 (addP s x).2) ∧ AddTo B0 g m vr (addP s x).1 w w' := by
 obtain ⟨f0, f1, f2, f3⟩ := x
 obtain ⟨A, c, rfl⟩ := own_slice hb.row
 have hb1 : Below w.heap.size w (w.alloc (.cells #[.int .u8 f0, .string f1, .int .i64 f2, .int .i64 f3] 56)) := (Below.refl _ w).alloc (Nat.le_refl _) _
 have hx := blk_new w (.cells #[.int .u8 f0, .string f1, .int .i64 f2, .int .i64 f3] 56)
 have hbx := hb.below hb1
 have hsz : (w.alloc (.cells #[.int .u8 f0, .string f1, .int .i64 f2, .int .i64 f3] 56)).heap.size = w.heap.size + 1 := by simp
 obtain ⟨w1, hw1⟩ : ∃ w1, w.alloc (.cells #[.int .u8 f0, .string f1, .int .i64 f2, .int .i64 f3] 56) = w1 := ⟨_, rfl⟩
 rw [hw1] at hb1 hx hbx hsz
 have hg0 := blk_cell hbx.blk 0
 simp only [List.getElem?_toArray, List.getElem?_cons_zero] at hg0
 have HB0 := Lib.hid hb.row
 have HB := Lib.hid hbx
 have HB1 := Lib.hid hb1
 have HX := Lib.hid hx
 have HSZ := Lib.hid hsz
 clear hb hb1 hx hbx hsz
 by_cases h0 : s.row = []
 ·have h00 : s.row.length = 0 := by rw [h0]; rfl
  have hz := Lib.hid (show BAt (w1.alloc (.cells #[.int .u8 0, .int .i64 0, .int .i64 1, .int .i64 0, .bool false, .int .i64 0, .int .i64 0] 155)) B0 g m (.slice A s.row.length c) vt ⟨s.row, s.t⟩ ∧ Below B0 w1 (w1.alloc (.cells #[.int .u8 0, .int .i64 0, .int .i64 1, .int .i64 0, .bool false, .int .i64 0, .int .i64 0] 155)) ∧ KeepK w1 (w1.alloc (.cells #[.int .u8 0, .int .i64 0, .int .i64 1, .int .i64 0, .bool false, .int .i64 0, .int .i64 0] 155)) from by
   refine ⟨HB.out.below ((Below.refl _ _).alloc (Nat.le_refl _) _), (Below.refl B0 w1).alloc (by have := HSZ.out; omega) _, KeepK.below ((Below.refl _ _).alloc (Nat.le_refl _) _)⟩)
  have HX1 := Lib.hid (blk_alloc HX.out (.cells #[.int .u8 0, .int .i64 0, .int .i64 1, .int .i64 0, .bool false, .int .i64 0, .int .i64 0] 155))
  have HS := hz
  clear hz
  rw [h00] at hg0
  have H0 := Lib.hid h0
  clear h0 h00
  go_enter Try.func132, Try.ntmps132
  go_wp2_with (go_at_call 134; refine (top_none c A _).mono ?_; rintro e w2 ⟨rfl, rfl⟩)
  obtain ⟨W1, hW1⟩ : ∃ W1, w1.alloc (.cells #[.int .u8 0, .int .i64 0, .int .i64 1, .int .i64 0, .bool false, .int .i64 0, .int .i64 0] 155) = W1 := ⟨_, rfl⟩
  rw [hW1] at HS HX1 ⊢
  clear hW1 hg0
  obtain ⟨HBK, HLOW, HKEEP⟩ := HS.out
  obtain ⟨At, ct, rfl⟩ := own_slice HBK.t
  obtain ⟨W2, hW2⟩ : ∃ W2, W1.drew = W2 := ⟨_, rfl⟩
  have hK2 : BAt W2 B0 g m (.slice A s.row.length c) (.slice At s.t.length ct) ⟨kidP s.row, s.t⟩ := by rw [← hW2, show kidP s.row = s.row from by rw [H0.out]; rfl]; exact HBK.below (below_drew1 (Below.refl _ _))
  have hX2 : W2.heap[w.heap.size]? = some (.cells #[.int .u8 f0, .string f1, .int .i64 f2, .int .i64 f3] 56 (0, 0)) := by rw [← hW2]; exact HX1.out
  have hL2 : Below B0 w W2 := by rw [← hW2]; exact below_drew1 (((HB1.out).trans (Below.refl _ _) |> fun h => (⟨h.os, h.tape, h.output, Nat.le_trans (Nat.le_refl _) h.size, fun i hi => h.block i (by omega)⟩ : Below B0 w w1)).trans HLOW)
  have hE2 : KeepK w W2 := by rw [← hW2]; exact ((KeepK.below HB1.out).trans HKEEP).drew
  have hs2 : w.heap.size < W2.heap.size := blk_lt hX2
  have c0 := blk_cell hX2 0
  have c1 := blk_cell hX2 1
  have c2 := blk_cell hX2 2
  have c3 := blk_cell hX2 3
  have d1 := blk_cell hK2.blk 1
  simp only [List.getElem?_toArray, List.getElem?_cons_succ, List.getElem?_cons_zero] at c0 c1 c2 c3 d1
  have HK2 := Lib.hid hK2
  have HL2 := Lib.hid hL2
  have HE2 := Lib.hid hE2
  have HX2 := Lib.hid hX2
  have HC := Lib.hid (And.intro c0 (And.intro c1 (And.intro c2 (And.intro c3 d1))))
  clear hK2 hL2 hE2 hX2 c0 c1 c2 c3 d1 HBK HLOW HKEEP HS HX1 HX HB1 HSZ
  refine Go.Mix.region_mix' (fun b W => W = (bif b then W2.alloc (.cells #[.int .u8 f0, .string f1, .int .i64 f2, .int .i64 f3] 56) else W2)) 6 7 [0] (by kernel_rfl) (by kernel_rfl) (fun _ _ _ _ _ h => h) hW2 ?_
  clear hW2
  refine Go.Mix.seqE_cons (t' := #[_, _, _, _, _, _, _, _, _, _, _, _, _, _, _, _, _, _, _, _, _, _, _, _, _, _, _, _, _, _, _, _]) _ (.pointer (some ⟨g, 0, none⟩)) rfl rfl (fun w' => rfl) rfl ?_
  refine Go.Mix.seqE_nil ?_
  refine Go.Mix.seqM_skip (by rfl) ?_
  repeat
   apply Go.Mix.seqM_cons (by rfl) (by rfl)
   focus
    intro b W hS
    have hB : Below W2.heap.size W2 W := by
     rw [hS]
     cases b
     ·exact Below.refl _ _
     ·exact (Below.refl _ _).alloc (Nat.le_refl _) _
    obtain ⟨c0, c1, c2, c3, d1⟩ := HC.out
    replace c0 := (hB.cell (World.block_lt_of_cell? W2 _ c0)).trans c0
    replace c1 := (hB.cell (World.block_lt_of_cell? W2 _ c1)).trans c1
    replace c2 := (hB.cell (World.block_lt_of_cell? W2 _ c2)).trans c2
    replace c3 := (hB.cell (World.block_lt_of_cell? W2 _ c3)).trans c3
    replace d1 := (hB.cell (World.block_lt_of_cell? W2 _ d1)).trans d1
    have HS := Lib.hid hS
    clear hS hB
    go_wp2
    exact Go.Det.AtEnd.mk HS.out
  apply Go.Mix.seqM_main (by rfl)
  focus
   intro W hS
   obtain rfl : W = W2 := hS
   go_wp2
   exact Go.Det.AtEnd.mk rfl
  refine Go.Mix.seqM_nil ?_
  intro W3 hW3
  obtain rfl : W3 = W2.alloc (.cells #[.int .u8 f0, .string f1, .int .i64 f2, .int .i64 f3] 56) := hW3
  simp only [List.drop_succ_cons, List.drop_zero]
  obtain ⟨i0, hi, hz0, hz1, hz2⟩ := info_parts info56
  go_wp2_with (at_builtin; refine wpList_append_own_at _ rfl _ _ 50 rfl B0 56 i0 (.agg #[(.int .u8 0), (.string ⟨#[]⟩), (.int .i64 0), (.int .i64 0)]) 4 40 Try.underlying50 hi hz0 hz1 hz2 rfl (by decide) _ _ _ rfl (HK2.out.t.alloc _) _ 1 1 [.int .u8 f0, .string f1, .int .i64 f2, .int .i64 f3] rfl rfl ?e1b ?e2b ?e3b ?e4b ?e5b ?e6b)
  case e2b => simp [Value.oneCell']
  case e3b => unfold maxLen; omega
  case e4b => omega
  case e5b => first | omega | (simp; omega)
  case e6b =>
   intro v' W4 hown' hgrow _ hat
   obtain ⟨A', c', rfl⟩ := own_slice hown'
   have hfin := add_end (x := ⟨f0, f1, f2, f3⟩) HK2.out hgrow hown' hs2 (by omega)
   obtain ⟨hf1, hf2, hf3⟩ := hfin
   have e1 := blk_cell hf1 1
   have z1 := blk_frozen hf1 1
   have hl := hf2.blk
   have e1' := blk_cell hl 1
   simp only [List.getElem?_toArray, List.getElem?_cons_succ, List.getElem?_cons_zero] at e1 e1'
   have H2 := Lib.hid hf2
   have H3 := Lib.hid hf3
   clear hf1 hf2 hf3 hl hown' hgrow hat
   have hp0 : addP s ⟨f0, f1, f2, f3⟩ = (⟨kidP s.row, s.t ++ [⟨f0, f1, f2, f3⟩]⟩, if 2000 < s.t.length + 1 then 4 else 0) := rfl
   have HP := Lib.hid hp0
   clear hp0
   have hend : Below B0 w (W4.setCell ⟨g, 1, none⟩ (.slice A' (s.t.length + 1) c')) := HL2.out.trans H3.out.1
   have hkeep := HE2.out.trans H3.out.2
   have H4 := Lib.hid hend
   have H5 := Lib.hid hkeep
   clear hend hkeep H3
   by_cases hbig : 2000 < s.t.length + 1
   ·have hbig' : (2000 : Int) < (s.t.length : Int) + 1 := by omega
    go_wp2
    go_ret
    refine ⟨by rw [HP.out, if_pos hbig]; rfl, ?_⟩
    rw [HP.out]
    exact ⟨_, H2.out, H4.out, H5.out⟩
   ·have hbig' : ¬ (2000 : Int) < (s.t.length : Int) + 1 := by omega
    go_wp2
    go_ret
    refine ⟨by rw [HP.out, if_neg hbig]; rfl, ?_⟩
    rw [HP.out]
    exact ⟨_, H2.out, H4.out, H5.out⟩
 ·have hp : 0 < s.row.length := List.length_pos_iff.2 h0
  obtain ⟨gr, cr, hae, hao⟩ := rowO_form HB.out.row hp
  simp only [Value.slice.injEq] at hae
  obtain ⟨rfl, -, rfl⟩ := hae
  obtain ⟨n, hn'⟩ : ∃ n, s.row.length = n + 1 := ⟨s.row.length - 1, by omega⟩
  have hkc := rowO_cell hao n 2 (by omega) (by omega)
  have hkf := hao.frozenAt (n * 7 + 2)
  simp only [cellsO, List.getElem?_cons_succ, List.getElem?_cons_zero] at hkc
  obtain ⟨cs, hcs⟩ := own_typed hao gr rfl
  have HNE := Lib.hid (show w.heap.size ≠ gr from fun e => by have := (own_lt HB0.out gr rfl); omega)
  clear hcs
  have hset := HB.out.setO n 2 (by omega) (by omega) kidF (.int .i64 (wrap64 ((s.row.getD n zOpn).kids + 1))) rfl
  have HS := Lib.hid hset
  have htop := fun W => top_some gr n c (by omega) W
  have HT := Lib.hid htop
  have HN := Lib.hid hn'
  clear hset htop hao h0 hp
  rw [hn'] at hg0
  generalize (s.row.getD n zOpn).kids = kd at *
  clear hn'
  go_enter Try.func132, Try.ntmps132
  go_wp2_with (go_at_call 134; refine (HT.out _).mono ?_; rintro e w2 ⟨rfl, rfl⟩)
  have HX1 := Lib.hid (blk_far HX.out (p := ⟨gr, n * 7 + 2, none⟩) HNE.out (.int .i64 (wrap64 (kd + 1))))
  obtain ⟨W1, hW1⟩ : ∃ W1, w2.setCell ⟨gr, n * 7 + 2, none⟩ (.int .i64 (wrap64 (kd + 1))) = W1 := ⟨_, rfl⟩
  rw [hW1] at HS HX1 ⊢
  clear hW1 hg0 hkc hkf
  obtain ⟨HBK, HLOW, HKEEP⟩ := HS.out
  obtain ⟨At, ct, rfl⟩ := own_slice HBK.t
  obtain ⟨W2, hW2⟩ : ∃ W2, W1.drew = W2 := ⟨_, rfl⟩
  have hK2 : BAt W2 B0 g m (.slice (some ⟨gr, 0, none⟩) s.row.length c) (.slice At s.t.length ct) ⟨kidP s.row, s.t⟩ := by rw [← hW2, show kidP s.row = s.row.modify n kidF from by unfold kidP; rw [HN.out]; rfl]; exact HBK.below (below_drew1 (Below.refl _ _))
  have hX2 : W2.heap[w.heap.size]? = some (.cells #[.int .u8 f0, .string f1, .int .i64 f2, .int .i64 f3] 56 (0, 0)) := by rw [← hW2]; exact HX1.out
  have hL2 : Below B0 w W2 := by rw [← hW2]; exact below_drew1 (((HB1.out).trans (Below.refl _ _) |> fun h => (⟨h.os, h.tape, h.output, Nat.le_trans (Nat.le_refl _) h.size, fun i hi => h.block i (by omega)⟩ : Below B0 w w2)).trans HLOW)
  have hE2 : KeepK w W2 := by rw [← hW2]; exact ((KeepK.below HB1.out).trans HKEEP).drew
  have hs2 : w.heap.size < W2.heap.size := blk_lt hX2
  have c0 := blk_cell hX2 0
  have c1 := blk_cell hX2 1
  have c2 := blk_cell hX2 2
  have c3 := blk_cell hX2 3
  have d1 := blk_cell hK2.blk 1
  simp only [List.getElem?_toArray, List.getElem?_cons_succ, List.getElem?_cons_zero] at c0 c1 c2 c3 d1
  have HK2 := Lib.hid hK2
  have HL2 := Lib.hid hL2
  have HE2 := Lib.hid hE2
  have HX2 := Lib.hid hX2
  have HC := Lib.hid (And.intro c0 (And.intro c1 (And.intro c2 (And.intro c3 d1))))
  clear hK2 hL2 hE2 hX2 c0 c1 c2 c3 d1 HBK HLOW HKEEP HS HX1 HX HB1 HSZ
  refine Go.Mix.region_mix' (fun b W => W = (bif b then W2.alloc (.cells #[.int .u8 f0, .string f1, .int .i64 f2, .int .i64 f3] 56) else W2)) 6 7 [0] (by kernel_rfl) (by kernel_rfl) (fun _ _ _ _ _ h => h) hW2 ?_
  clear hW2
  refine Go.Mix.seqE_cons (t' := #[_, _, _, _, _, _, _, _, _, _, _, _, _, _, _, _, _, _, _, _, _, _, _, _, _, _, _, _, _, _, _, _]) _ (.pointer (some ⟨g, 0, none⟩)) rfl rfl (fun w' => rfl) rfl ?_
  refine Go.Mix.seqE_nil ?_
  refine Go.Mix.seqM_skip (by rfl) ?_
  repeat
   apply Go.Mix.seqM_cons (by rfl) (by rfl)
   focus
    intro b W hS
    have hB : Below W2.heap.size W2 W := by
     rw [hS]
     cases b
     ·exact Below.refl _ _
     ·exact (Below.refl _ _).alloc (Nat.le_refl _) _
    obtain ⟨c0, c1, c2, c3, d1⟩ := HC.out
    replace c0 := (hB.cell (World.block_lt_of_cell? W2 _ c0)).trans c0
    replace c1 := (hB.cell (World.block_lt_of_cell? W2 _ c1)).trans c1
    replace c2 := (hB.cell (World.block_lt_of_cell? W2 _ c2)).trans c2
    replace c3 := (hB.cell (World.block_lt_of_cell? W2 _ c3)).trans c3
    replace d1 := (hB.cell (World.block_lt_of_cell? W2 _ d1)).trans d1
    have HS := Lib.hid hS
    clear hS hB
    go_wp2
    exact Go.Det.AtEnd.mk HS.out
  apply Go.Mix.seqM_main (by rfl)
  focus
   intro W hS
   obtain rfl : W = W2 := hS
   go_wp2
   exact Go.Det.AtEnd.mk rfl
  refine Go.Mix.seqM_nil ?_
  intro W3 hW3
  obtain rfl : W3 = W2.alloc (.cells #[.int .u8 f0, .string f1, .int .i64 f2, .int .i64 f3] 56) := hW3
  simp only [List.drop_succ_cons, List.drop_zero]
  obtain ⟨i0, hi, hz0, hz1, hz2⟩ := info_parts info56
  go_wp2_with (at_builtin; refine wpList_append_own_at _ rfl _ _ 50 rfl B0 56 i0 (.agg #[(.int .u8 0), (.string ⟨#[]⟩), (.int .i64 0), (.int .i64 0)]) 4 40 Try.underlying50 hi hz0 hz1 hz2 rfl (by decide) _ _ _ rfl (HK2.out.t.alloc _) _ 1 1 [.int .u8 f0, .string f1, .int .i64 f2, .int .i64 f3] rfl rfl ?e1a ?e2a ?e3a ?e4a ?e5a ?e6a)
  case e2a => simp [Value.oneCell']
  case e3a => unfold maxLen; omega
  case e4a => omega
  case e5a => first | omega | (simp; omega)
  case e6a =>
   intro v' W4 hown' hgrow _ hat
   obtain ⟨A', c', rfl⟩ := own_slice hown'
   have hfin := add_end (x := ⟨f0, f1, f2, f3⟩) HK2.out hgrow hown' hs2 (by omega)
   obtain ⟨hf1, hf2, hf3⟩ := hfin
   have e1 := blk_cell hf1 1
   have z1 := blk_frozen hf1 1
   have hl := hf2.blk
   have e1' := blk_cell hl 1
   simp only [List.getElem?_toArray, List.getElem?_cons_succ, List.getElem?_cons_zero] at e1 e1'
   have H2 := Lib.hid hf2
   have H3 := Lib.hid hf3
   clear hf1 hf2 hf3 hl hown' hgrow hat
   have hp0 : addP s ⟨f0, f1, f2, f3⟩ = (⟨kidP s.row, s.t ++ [⟨f0, f1, f2, f3⟩]⟩, if 2000 < s.t.length + 1 then 4 else 0) := rfl
   have HP := Lib.hid hp0
   clear hp0
   have hend : Below B0 w (W4.setCell ⟨g, 1, none⟩ (.slice A' (s.t.length + 1) c')) := HL2.out.trans H3.out.1
   have hkeep := HE2.out.trans H3.out.2
   have H4 := Lib.hid hend
   have H5 := Lib.hid hkeep
   clear hend hkeep H3
   by_cases hbig : 2000 < s.t.length + 1
   ·have hbig' : (2000 : Int) < (s.t.length : Int) + 1 := by omega
    go_wp2
    go_ret
    refine ⟨by rw [HP.out, if_pos hbig]; rfl, ?_⟩
    rw [HP.out]
    exact ⟨_, H2.out, H4.out, H5.out⟩
   ·have hbig' : ¬ (2000 : Int) < (s.t.length : Int) + 1 := by omega
    go_wp2
    go_ret
    refine ⟨by rw [HP.out, if_neg hbig]; rfl, ?_⟩
    rw [HP.out]
    exact ⟨_, H2.out, H4.out, H5.out⟩
end Go.Proofs.Ythcmfjpheanphaa.Pr
