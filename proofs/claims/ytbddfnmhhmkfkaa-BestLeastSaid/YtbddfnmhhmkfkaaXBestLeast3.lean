/- Texts of this seat, one behind the other. -/
import Derived.Maps.OwnOps
import Derived.Maps.OwnIn
import Derived.Maps.Views
import Derived.Maps.AppendAt
import Derived.Test.YtbddfnmhhmkfkaaXBestLeast1
import Derived.Test.YtbddfnmhhmkfkaaXBestLeast2
/- best.Of, walked by hand. -/
namespace Go.Proofs.Ytbddfnmhhmkfkaa.Pr
set_option linter.unusedVariables false
set_option linter.unusedSimpArgs false
open Go.RowKit Go.Shelf Go.Maps Go.Proofs.YtbddfnmhhmkfkaaW.PrintWords
attribute [local go_sem] Oper.semAt_some

def wayCells (x : List Int × Int) : List Value := [.int .i64 (Go.DP.hd x.1), .int .i64 x.2, .int .i64 (frmP x.1)]
def flat70 (xs : List (List Int × Int)) : List Value := xs.flatMap wayCells
theorem flat70_length (xs : List (List Int × Int)) : (flat70 xs).length = xs.length * 3 := by
  induction xs with
  | nil => rfl
  | cons x xs ih => simp [flat70, wayCells] at ih ⊢; omega
theorem flat70_snoc (xs : List (List Int × Int)) (x : List Int × Int) : flat70 (xs ++ [x]) = flat70 xs ++ wayCells x := by simp [flat70]
theorem flat70_get (xs : List (List Int × Int)) : ∀ (j : Nat), j < xs.length → (flat70 xs)[j * 3]? = some (.int .i64 (Go.DP.hd (xs.getD j ([], 0)).1)) ∧ (flat70 xs)[j * 3 + 1]? = some (.int .i64 (xs.getD j ([], 0)).2) ∧ (flat70 xs)[j * 3 + 2]? = some (.int .i64 (frmP (xs.getD j ([], 0)).1)) := by
  induction xs with
  | nil => intro j h; simp at h
  | cons x xs ih =>
    intro j h
    cases j with
    | zero => simp [flat70, wayCells]
    | succ j =>
      have := ih j (by simpa using h)
      have e : flat70 (x :: xs) = wayCells x ++ flat70 xs := rfl
      have l : (wayCells x).length = 3 := rfl
      rw [e, List.getElem?_append_right (by omega), List.getElem?_append_right (by omega), List.getElem?_append_right (by omega), l]
      rw [show (j + 1) * 3 - 3 = j * 3 by omega, show (j + 1) * 3 + 1 - 3 = j * 3 + 1 by omega, show (j + 1) * 3 + 2 - 3 = j * 3 + 2 by omega]
      simpa using this
theorem info70h : (Try.prog.info? 70).map (fun i => (i.zero, i.size, i.bytes)) = some (some (.agg #[(.int .i64 0), (.int .i64 0), (.int .i64 0)]), 3, 24) := by kernel_rfl
theorem law3 : Keyed Try.prog 3 := int_keyed Try.underlying3
theorem zero3 (w : World) : (zeroValue 3).run Try.prog w = .ok (.int .i64 0) w := by kernel_rfl
/-- the map of last lines' begins -/
structure MapOk (D : DataW Unit) (ws : List (List Int × Int)) : Prop where
  is : IsMap D
  at_ : ∀ x ∈ ws, x.1 ≠ [] → ∀ z, D.atKey (.int .i64 (Go.DP.hd x.1)) z = .lit (.int .i64 (frmP x.1))
theorem mapOk_put {D : DataW Unit} {ws : List (List Int × Int)} {q : List Int × Int} (h : MapOk D ws) (hlt : ∀ x ∈ ws, Go.DP.hd x.1 < Go.DP.hd q.1) : MapOk (D.put (.int .i64 (Go.DP.hd q.1)) (.lit (.int .i64 (frmP q.1)))) (ws ++ [q]) := by
  refine ⟨h.is.put _ _, fun x hx hne z => ?_⟩
  rcases List.mem_append.1 hx with hx | hx
  · have := hlt x hx
    rw [atKey_put_other (fun e => by have := (Lit.int.inj e).2; omega)]
    exact h.at_ x hx hne z
  · obtain rfl := List.mem_singleton.1 hx
    exact atKey_put_same h.is (show WideAt.IsKeyLit (.int .i64 _) from trivial) _ _
theorem map_apart {w : World} {H : Type} {P : Program} {k : TypeId} {R : Value → Option (DataW H × List MemPlace)} {b m : Nat} {D : DataW H} (hm : w.ownsMap P k R b m D) {base e size n : Nat} {v : Value} {xs : List Value} (h : w.ownsRow base e size v n xs) : some b ≠ v.ownBlock := by
  obtain ⟨es, clock, hb, _⟩ := hm
  rcases h.2 with ⟨rfl, _⟩ | ⟨g, cap, cur, rfl, _, hg, _⟩
  · simp [Value.ownBlock]
  · intro e
    obtain rfl : b = g := by simpa [Value.ownBlock] using e
    rw [hb] at hg
    cases hg
theorem row_frm (l : List S43) : ∀ x : List Int, RowP l x → -1 ≤ frmP x ∧ frmP x ≤ l.length
  | [], _ => by simp only [frmP]; omega
  | t :: r, h => by
    have := row_len l r h.2.2.2
    exact this.2
theorem wf_small {a : Int} (h0 : -9223372036854775808 ≤ a) (h1 : a ≤ 9223372036854775807) : (Lit.int .i64 a).wf = true := by
  have := wrap64_wf a
  rwa [w64 h0 h1] at this
theorem own_RI {w : World} {base : Nat} {v : Value} {xs : List Int} (h : w.ownsRow base 3 1 v xs.length (nums .i64 xs)) (b' : Nat) (hb : b' ≤ base) (ok : Nat → Prop) (hok : ∀ k, v.ownBlock = some k → ok k) : Kd.R (Kd.int .i64) 3 w b' ok v xs := by
  refine Kd.R_lower (base := base) ⟨hok, nums .i64 xs, h, by rw [nums_length]; exact (Nat.mul_one _).symm, fun j p hp => ?_⟩ hb
  show ((nums .i64 xs).drop (j * 1)).take 1 = [.int .i64 p]
  obtain ⟨hlt, rfl⟩ := List.getElem?_eq_some_iff.1 hp
  have hl2 : j < (nums .i64 xs).length := by simpa [nums] using hlt
  rw [Nat.mul_one, List.drop_eq_getElem_cons hl2]
  simp [nums]
theorem info3h : (Try.prog.info? 3).map (fun i => (i.zero, i.size, i.bytes)) = some (some (.int .i64 0), 1, 8) := by kernel_rfl
/-- the loop's word -/
def OfI (l : List S43) (w : Int) (nF gW gL gM gb : Nat) (fl : Array Value) (wF : World) (pre : List Int) (W : World) : Prop :=
  (∃ v, Boxed W gW 71 v ∧ W.ownsRow nF 70 3 v (waysP l w pre).length (flat70 (waysP l w pre)) ∧ True) ∧
  (∃ D, Boxed W gL 72 (.map (some gM)) ∧ W.ownsMap Try.prog 3 (plainElem Try.prog 3) gM pre.length D ∧ MapOk D (waysP l w pre)) ∧ W.heap[gb]? = some (.cells fl 67 (0, 0)) ∧ Below nF wF W
theorem ofI_own (l : List S43) (w : Int) (nF gW gL gM gb : Nat) (fl : Array Value) (wF : World) (B : Nat) (h1 : gL < B) (h2 : gM < B) (h3 : nF ≤ wF.heap.size) (h4 : nF ≤ B) (h5 : gb < B) : OwnFrom B (OfI l w nF gW gL gM gb fl wF) := by
  refine OwnFrom.and (Own.from (holdsRow_own nF gW 71 70 3 (fun pre => (waysP l w pre).length) (fun pre => flat70 (waysP l w pre)) (fun _ _ => True)) _) (OwnFrom.and ?_ (OwnFrom.and (fun s W W' row hs hg hr => (hg.block gb (blk_lt hs) (fun e => by have := (hr gb e.symm).1; omega)).trans hs) (ownFrom_below h3 h4)))
  intro s W W' row hs hg hr
  obtain ⟨D, hb, hm, hd⟩ := hs
  refine ⟨D, hb.kept hg (fun e => ?_), hm.kept hg (fun e => ?_), hd⟩
  · have := (hr gL e.symm).1; omega
  · have := (hr gM e.symm).1; omega
set_option maxRecDepth 100000 in
set_option maxHeartbeats 4000000 in
theorem of_bad (A0 : Option Addr) (c0 : Nat) (l0 : List S43) (a1 : Int) (w : World) (hr0 : Kd.C k43 w A0 l0.length l0) (hc0 : l0.length ≤ c0) (hk : checkP l0 a1 = 1) :
    Calls Try.prog 13 #[.slice A0 l0.length c0, .int .i64 a1] w fun e w' => e = .returned (.tuple #[.slice none 0 0, .int .i64 1]) ∧ Below w.heap.size w w' := by
  have hck := best_Check.calls A0 c0 l0 a1 _ w hr0 hc0 rfl
  rw [hk] at hck
  have HCK := Lib.hid hck
  clear hck hr0 hc0
  go_enter Try.func13, Try.ntmps13
  go_wp2_with fail
  refine HCK.out.mono ?_
  rintro _ w2 ⟨rfl, hb⟩
  go_wp2
  go_ret2
  exact ⟨rfl, hb⟩
set_option maxRecDepth 100000 in
set_option maxHeartbeats 8000000 in
theorem of_good (A0 : Option Addr) (c0 : Nat) (l0 : List S43) (a1 : Int) (w : World) (hl : l0.length ≤ 1000000) (hr0 : Kd.C k43 w A0 l0.length l0) (hc0 : l0.length ≤ c0) (hk : checkP l0 a1 = 0) :
    Calls Try.prog 13 #[.slice A0 l0.length c0, .int .i64 a1] w fun e w' => ∃ v, e = .returned (.tuple #[v, .int .i64 0]) ∧ Kd.R (Kd.int .i64) 3 w' w.heap.size (fun _ => True) v (rowR l0 a1).reverse ∧ Below w.heap.size w w' := by
  obtain ⟨i0, hi, hz0_, hz1, hz2⟩ := info_parts info70h
  have ok := check_ok hk
  have hck := best_Check.calls A0 c0 l0 a1 _ w hr0 hc0 rfl
  rw [hk] at hck
  have HCK := Lib.hid hck
  have HBG := fun W hW => begin_flow A0 c0 l0 a1 W hl (Kd.C_below hr0 hW)
  obtain ⟨S, hS⟩ : ∃ S, sumsTo l0 l0.length = S := ⟨_, rfl⟩
  rw [hS] at HBG
  have HB := Lib.hid HBG
  have HS := Lib.hid hS
  have HR := Lib.hid hr0
  have OK := Lib.hid ok
  have hnl : (l0.length : Int) ≤ 1000000 := by omega
  have HC0 := Lib.hid hc0
  clear hck HBG hS hr0 ok hk hc0
  have hmm := @run_makeMap Try.prog
  refine (callsIn_wide (n := 3)).1 (callsIn_of_wp_marks Try.func13 rfl trivial ?_ rfl)
  simp only [Try.ntmps13, List.size_toArray, List.length_cons, List.length_nil, Nat.reduceAdd, Nat.reduceSub, Array.replicate_succ, Array.replicate_zero, List.push_toArray, List.append_toArray, List.nil_append, List.cons_append]
  refine wpIn_wide.2 ?_
  go_wp2_with fail
  refine HCK.out.mono ?_
  rintro _ w1 ⟨rfl, hb1⟩
  go_wp2_with fail
  refine (HB.out _ hb1).mono ?_
  rintro _ w2 ⟨A2, c2, rfl, hs, hc2, hb2⟩
  replace hb2 := hb1.trans (hb2.mono hb1.size)
  clear hb1
  go_wp2_with (go_at_call 44; refine ((callsIn_wide (n := 2)).1 (places_in A0 l0.length c0 a1 A2 S.length c2 2 _)).mono ?_; rintro e w' ⟨rfl, rfl⟩)
  obtain ⟨flow, hflow⟩ : ∃ o, Obj.cells #[.slice A0 l0.length c0, .int .i64 a1, .slice A2 S.length c2] 67 = o := ⟨_, rfl⟩
  have e0 := blk_new w2 (.cells #[.slice A0 l0.length c0, .int .i64 a1, .slice A2 S.length c2] 67)
  have hC : ∀ W, Below (w2.heap.size + 1) (w2.alloc (.cells #[.slice A0 l0.length c0, .int .i64 a1, .slice A2 S.length c2] 67)) W → Kd.C k43 W A0 l0.length l0 ∧ Kd.C k85 W A2 S.length S := fun W hW =>
    ⟨Kd.C_below (Kd.C_below HR.out (below_alloc hb2 _)) (hW.mono (by simp)), Kd.C_below (Kd.C_alloc hs _) (by simpa using hW)⟩
  have HC := Lib.hid hC
  have hBF : Below w.heap.size w (w2.alloc (.cells #[.slice A0 l0.length c0, .int .i64 a1, .slice A2 S.length c2] 67)) := below_alloc hb2 _
  have hszF : (w2.alloc (.cells #[.slice A0 l0.length c0, .int .i64 a1, .slice A2 S.length c2] 67)).heap.size = w2.heap.size + 1 := by simp
  obtain ⟨wF, hwF⟩ : ∃ W, w2.alloc (.cells #[.slice A0 l0.length c0, .int .i64 a1, .slice A2 S.length c2] 67) = W := ⟨_, rfl⟩
  rw [hwF] at e0 hBF hszF HC ⊢
  have hnF : w.heap.size ≤ w2.heap.size + 1 := by have := hb2.size; omega
  clear hs hb2 hC hflow flow
  have b1 := Boxed.new (wF.alloc (.cells #[.int .i64 (-1), .int .i64 0, .int .i64 0] 70)) 71 (.slice (some ⟨w2.heap.size + 1, 0, none⟩) 1 1)
  have b0 : (wF.alloc (.cells #[.int .i64 (-1), .int .i64 0, .int .i64 0] 70)).ownsRow (w2.heap.size + 1) 70 3 (.slice (some ⟨w2.heap.size + 1, 0, none⟩) 1 1) 1 [.int .i64 (-1), .int .i64 0, .int .i64 0] :=
    ⟨rfl, .inr ⟨w2.heap.size + 1, 1, _, rfl, Nat.le_refl _, by rw [← hszF]; exact heap_alloc_new _ _, Nat.le_refl _, by unfold maxLen; omega, rfl, rfl⟩⟩
  have b2 := World.ownsMap_made (H := Unit) ((wF.alloc (.cells #[.int .i64 (-1), .int .i64 0, .int .i64 0] 70)).alloc (.cells #[.slice (some ⟨w2.heap.size + 1, 0, none⟩) 1 1] 71)) Try.prog 3 (plainElem Try.prog 3)
  have b3 := Boxed.new (((wF.alloc (.cells #[.int .i64 (-1), .int .i64 0, .int .i64 0] 70)).alloc (.cells #[.slice (some ⟨w2.heap.size + 1, 0, none⟩) 1 1] 71)).alloc (.map #[] 0)) 72 (.map (some (w2.heap.size + 1 + 1 + 1)))
  have b4 := blk_new ((((wF.alloc (.cells #[.int .i64 (-1), .int .i64 0, .int .i64 0] 70)).alloc (.cells #[.slice (some ⟨w2.heap.size + 1, 0, none⟩) 1 1] 71)).alloc (.map #[] 0)).alloc (.cells #[.map (some (w2.heap.size + 1 + 1 + 1))] 72)) (.cells #[.slice A0 l0.length c0, .int .i64 a1, .slice A2 S.length c2] 67)
  simp only [World.size_alloc, hszF] at b1 b2 b3 b4
  obtain ⟨o70, ho70⟩ : ∃ o, Obj.cells #[.int .i64 (-1), .int .i64 0, .int .i64 0] 70 = o := ⟨_, rfl⟩
  have hB0 : Below (w2.heap.size + 1) wF (((((wF.alloc (.cells #[.int .i64 (-1), .int .i64 0, .int .i64 0] 70)).alloc (.cells #[.slice (some ⟨w2.heap.size + 1, 0, none⟩) 1 1] 71)).alloc (.map #[] 0)).alloc (.cells #[.map (some (w2.heap.size + 1 + 1 + 1))] 72)).alloc (.cells #[.slice A0 l0.length c0, .int .i64 a1, .slice A2 S.length c2] 67)) := by
    rw [← hszF]
    exact ((((((Below.refl _ _).alloc (Nat.le_refl _) _).alloc (by simp) _).alloc (by simp; omega) _).alloc (by simp; omega) _).alloc (by simp; omega) _)
  replace b0 := ((((b0.alloc (.cells #[.slice (some ⟨w2.heap.size + 1, 0, none⟩) 1 1] 71)).alloc (.map #[] 0)).alloc (.cells #[.map (some (w2.heap.size + 1 + 1 + 1))] 72)).alloc (.cells #[.slice A0 l0.length c0, .int .i64 a1, .slice A2 S.length c2] 67))
  replace b1 := ((b1.alloc (.map #[] 0)).alloc (.cells #[.map (some (w2.heap.size + 1 + 1 + 1))] 72)).alloc (.cells #[.slice A0 l0.length c0, .int .i64 a1, .slice A2 S.length c2] 67)
  replace b2 := (b2.alloc (.cells #[.map (some (w2.heap.size + 1 + 1 + 1))] 72)).alloc (.cells #[.slice A0 l0.length c0, .int .i64 a1, .slice A2 S.length c2] 67)
  replace b3 := b3.alloc (.cells #[.slice A0 l0.length c0, .int .i64 a1, .slice A2 S.length c2] 67)
  have hz0 : (((((wF.alloc (.cells #[.int .i64 (-1), .int .i64 0, .int .i64 0] 70)).alloc (.cells #[.slice (some ⟨w2.heap.size + 1, 0, none⟩) 1 1] 71)).alloc (.map #[] 0)).alloc (.cells #[.map (some (w2.heap.size + 1 + 1 + 1))] 72)).alloc (.cells #[.slice A0 l0.length c0, .int .i64 a1, .slice A2 S.length c2] 67)).heap.size = w2.heap.size + 6 := by simp [hszF]
  obtain ⟨W0, hW0⟩ : ∃ W0, (((((wF.alloc (.cells #[.int .i64 (-1), .int .i64 0, .int .i64 0] 70)).alloc (.cells #[.slice (some ⟨w2.heap.size + 1, 0, none⟩) 1 1] 71)).alloc (.map #[] 0)).alloc (.cells #[.map (some (w2.heap.size + 1 + 1 + 1))] 72)).alloc (.cells #[.slice A0 l0.length c0, .int .i64 a1, .slice A2 S.length c2] 67)) = W0 := ⟨_, rfl⟩
  rw [hW0] at b0 b1 b2 b3 b4 hB0 hz0 ⊢
  clear hW0 ho70 o70 hwF hmm
  have hI0 : OfI l0 a1 (w2.heap.size + 1) (w2.heap.size + 1 + 1) (w2.heap.size + 1 + 1 + 1 + 1) (w2.heap.size + 1 + 1 + 1) (w2.heap.size + 1 + 1 + 1 + 1 + 1) #[.slice A0 l0.length c0, .int .i64 a1, .slice A2 S.length c2] wF [] W0 :=
    ⟨⟨_, b1, b0, trivial⟩, ⟨_, b3, b2, ⟨isMap_empty, fun x hx hne => by
      obtain rfl := List.mem_singleton.1 (show x ∈ [([], 0)] from hx)
      exact absurd rfl hne⟩⟩, b4, hB0⟩
  have hhands := places_hands 2 (by omega) l0 hl a1 A0 c0 A2 S c2 (w2.heap.size + 1) (w2.heap.size + 1 + 1 + 1 + 1 + 1) wF W0 HC0.out hc2 HC.out hB0 (by omega) b4
  refine (wpIn_wide (n := 3)).1 ?_
  apply Go.Next.range_next rfl (by omega) (gf := 74) (lb := #[.pointer (some ⟨w2.heap.size + 1 + 1 + 1 + 1 + 1, 0, none⟩)]) rfl trivial (enters_of Try.func74 (by kernel_rfl) rfl) (encs := fun x : Int => #[.int .i64 x]) (Kp := PK (w2.heap.size + 1) (w2.heap.size + 1 + 1 + 1 + 1 + 1))
    hhands PK_t (PK_b (nF := w2.heap.size + 1) (gb := w2.heap.size + 1 + 1 + 1 + 1 + 1) (w := W0) (by omega) (by omega)) (Below.refl _ _) (fun _ => rfl)
    (OfI l0 a1 (w2.heap.size + 1) (w2.heap.size + 1 + 1) (w2.heap.size + 1 + 1 + 1 + 1) (w2.heap.size + 1 + 1 + 1) (w2.heap.size + 1 + 1 + 1 + 1 + 1) #[.slice A0 l0.length c0, .int .i64 a1, .slice A2 S.length c2] wF) (ofI_own _ _ _ _ _ _ _ _ _ _ (by omega) (by omega) (by omega) (by omega) (by omega)) hI0
  case hassign =>
    intro l x W K hK
    gi_wp2
    exact hK
  case hbody =>
    intro lr pre t suf W hpl hIW
    obtain ⟨⟨v, hv, hrow, -⟩, ⟨D, hL, hM, hD⟩, hgb, hB⟩ := hIW
    have HGB := Lib.hid hgb
    clear hgb
    have hm := met OK.out pre t suf hpl
    have e1 : W.heap[w2.heap.size]? = some (.cells #[.slice A0 l0.length c0, .int .i64 a1, .slice A2 S.length c2] 67 (0, 0)) := (hB.block _ (by omega)).trans e0
    have hlen := hm.len
    obtain ⟨ws, hws⟩ : ∃ ws, waysP l0 a1 pre = ws := ⟨_, rfl⟩
    have hfew := hm.few
    rw [hws] at hrow hlen hD hfew
    rw [hlen] at hrow
    obtain ⟨g, cap, rfl⟩ := ownsRow_succ hrow
    have hgl := own_lt hrow g rfl
    have hvc := (hv.alloc (.cells #[.int .i64 t, .int .i64 (-1), .int .i64 0] 70)).cell
    have hft : (pre.length : Int) ≤ 16385 := by omega
    have HV := Lib.hid hv
    have HROW := Lib.hid hrow
    have HL2 := Lib.hid hL
    have HM2 := Lib.hid hM
    have HD := Lib.hid hD
    have HMET := Lib.hid hm
    have HWS := Lib.hid hws
    have HLEN := Lib.hid hlen
    have E1 := Lib.hid e1
    have HPL := Lib.hid hpl
    have t0 := hm.t0
    have t1 := hm.t1
    clear hv hrow hL hM hD hm hws hlen e1 hpl
    have bb := blk_new W (.cells #[.int .i64 t, .int .i64 (-1), .int .i64 0] 70)
    have bB : Below W.heap.size W (W.alloc (.cells #[.int .i64 t, .int .i64 (-1), .int .i64 0] 70)) := (Below.refl _ _).alloc (Nat.le_refl _) _
    have BB := Lib.hid bb
    clear bb
    gi_wp2
    gi_loopw [36] (fun i wr => ∃ j : Nat, j ≤ pre.length + 1 ∧ i = .int .i64 j ∧ Below W.heap.size W wr ∧ wr.heap[W.heap.size]? = some (.cells #[.int .i64 t, .int .i64 (encB (Go.DP.pick (legalP l0) (costP l0 a1) t (ws.take j) none)).1, .int .i64 (encB (Go.DP.pick (legalP l0) (costP l0 a1) t (ws.take j) none)).2] 70 (0, 0)))
      (fun i _ => pre.length + 1 - (intOf i).toNat)
    case atStart => exact ⟨0, Nat.zero_le _, rfl, bB, BB.out⟩
    case round =>
      clear hvc bB
      obtain ⟨j, hj, rfl, hBr, hBx⟩ := hrel
      by_cases hlt : j < pre.length + 1
      · have hlt1 : (j : Int) < (pre.length : Int) + 1 := by omega
        have hjw : j < ws.length := by have := HLEN.out; omega
        have hrw := pw_own_below HROW.out hBr
        have hfl := blk_below E1.out hBr
        obtain ⟨f1, f2, f3⟩ := flat70_get ws j hjw
        have s0 := hrw.cellAt (j * 3) (by omega)
        have s1 := hrw.cellAt (j * 3 + 1) (by omega)
        have s2 := hrw.cellAt (j * 3 + 2) (by omega)
        rw [f1] at s0
        rw [f2] at s1
        rw [f3] at s2
        have hxm := HMET.out.at_ (ws.getD j ([], 0)) (by rw [← HWS.out] at hjw ⊢; exact way_mem hjw)
        have htk := take_at (l := l0) (w := a1) (pre := pre) (j := j) (by rw [HWS.out]; exact hjw)
        rw [HWS.out] at htk
        have hpb := pick_bd OK.out HMET.out j
        rw [HWS.out] at hpb
        have hsn := pick_snoc (legal := legalP l0) (cost := costP l0 a1) t (ws.take j) (ws.getD j ([], 0)) none
        rw [← htk] at hsn
        have hla := legal_f l0 a1 S (Go.DP.hd (ws.getD j ([], 0)).1) t
        have hdm := demerits_spec OK.out hxm.1 hxm.2.1 t1 0
        have hcb := costP_bd OK.out hxm.1 hxm.2.1 t1
        rw [HS.out] at hdm
        have HSN := Lib.hid hsn
        have HPB := Lib.hid hpb
        have HFL := Lib.hid hfl
        have HBX := Lib.hid hBx
        clear hrw hfl f1 f2 f3 htk hsn hpb hBx hjw
        generalize ws.getD j ([], 0) = x at *
        obtain ⟨xp, xs⟩ := x
        dsimp only at *
        generalize costP l0 a1 (Go.DP.hd xp) t = cc at *
        generalize frmP xp = fx at *
        generalize hax : Go.DP.hd xp = ax at *
        have HAX := Lib.hid hax
        clear hax
        generalize Go.DP.pick (legalP l0) (costP l0 a1) t (ws.take j) none = bst at *
        obtain ⟨bs, bf, hbs, hbs0⟩ : ∃ bs bf, encB bst = (bs, bf) ∧ (bs = -1 ∧ bst = none ∨ 0 ≤ bs ∧ ∃ q, bst = some q ∧ q.2 = bs) := by
          cases bst with
          | none => exact ⟨-1, 0, rfl, .inl ⟨rfl, rfl⟩⟩
          | some q => exact ⟨q.2, frmP q.1, rfl, .inr ⟨HPB.out q rfl, q, rfl, rfl⟩⟩
        rw [hbs] at HBX
        dsimp only at HBX
        have HBS := Lib.hid hbs
        have HBS0 := Lib.hid hbs0
        clear hbs hbs0
        have hXF := blk_alloc HFL.out (.cells #[.int .i64 ax, .int .i64 xs, .int .i64 fx] 70)
        have hXX := blk_new wr (.cells #[.int .i64 ax, .int .i64 xs, .int .i64 fx] 70)
        have hXB := blk_alloc HBX.out (.cells #[.int .i64 ax, .int .i64 xs, .int .i64 fx] 70)
        have hBX : Below W.heap.size W (wr.alloc (.cells #[.int .i64 ax, .int .i64 xs, .int .i64 fx] 70)) := below_alloc hBr _
        obtain ⟨y0, y1, y2⟩ := flow_cells hXF
        have hBF4 : Below (w2.heap.size + 1) wF (wr.alloc (.cells #[.int .i64 ax, .int .i64 xs, .int .i64 fx] 70)) := hB.trans (hBX.mono (by have := hB.size; omega))
        have hlc := best_flow_legal.calls A0 c0 l0 a1 A2 c2 S ax t _ _ (HC.out _ hBF4).1 HC0.out (HC.out _ hBF4).2 hc2 hla
        obtain ⟨lg, hlg⟩ : ∃ b, legalP l0 ax t = b := ⟨_, rfl⟩
        rw [hlg] at hlc
        have HLG := Lib.hid hlg
        have HLC := Lib.hid hlc
        have HDM := Lib.hid hdm
        have HXF := Lib.hid hXF
        have HXX := Lib.hid hXX
        have HXB := Lib.hid hXB
        clear hla hlc hlg hdm hXF hXX hXB
        gi_wp2_with fail
        refine ⟨trivial, (CallsIn.inRound lr (callsIn_wide.2 HLC.out)).mono ?_⟩
        rintro e w4 ⟨rfl, hb4⟩
        have hXF := blk_below HXF.out hb4
        have hXX := blk_below HXX.out hb4
        have hXB := blk_below HXB.out hb4
        have hBX4 := below_step hBX hb4
        have hB4 := hBF4.trans (hb4.mono (by have := hBX.size; have := hB.size; omega))
        clear y0 y1 y2 s0 s1 s2 hb4 HLC hBX hBF4
        cases lg
        · gi_wp2
          go_roundw
          case rel =>
            refine ⟨j + 1, by omega, by go_num, hBX4, ?_⟩
            rw [HSN.out, if_neg (by rw [HLG.out]; simp), HBS.out]
            exact hXB
          case measure => simp [intOf]; omega
        · obtain ⟨y0, y1, y2⟩ := flow_cells hXF
          have x0 := blk_cell hXX 0
          have x1 := blk_cell hXX 1
          simp only [List.getElem?_toArray, List.getElem?_cons_succ, List.getElem?_cons_zero] at x0 x1
          have HXF := Lib.hid hXF
          have HXX := Lib.hid hXX
          have HXB := Lib.hid hXB
          clear hXF hXX hXB
          gi_wp2_with fail
          clear y0 y1 y2 x0 x1
          have hdx : ∀ W', Below w4.heap.size w4 W' → Calls Try.prog 46 #[.agg #[.slice A0 l0.length c0, .int .i64 a1, .slice A2 S.length c2], .int .i64 ax, .int .i64 t] W' fun e w' => e = .returned (.int .i64 cc) ∧ Below W'.heap.size W' w' := fun W' hW' => by
            have hb' := hB4.trans (hW'.mono (by have := hBX4.size; have := hB.size; omega))
            exact best_flow_demerits.calls 2 A0 c0 l0 a1 A2 c2 S ax t cc W' (HC.out _ hb').1 HC0.out (HC.out _ hb').2 hc2 HDM.out
          have HDX := Lib.hid hdx
          have HCX : Hid (∀ W', Below w4.heap.size w4 W' → (W'.cell? ⟨w2.heap.size, 0, none⟩ = some (.slice A0 l0.length c0) ∧ W'.cell? ⟨w2.heap.size, 1, none⟩ = some (.int .i64 a1) ∧ W'.cell? ⟨w2.heap.size, 2, none⟩ = some (.slice A2 S.length c2)) ∧ W'.cell? ⟨wr.heap.size, 0, none⟩ = some (.int .i64 ax) ∧ W'.cell? ⟨wr.heap.size, 1, none⟩ = some (.int .i64 xs)) := Lib.hid fun W' hW' =>
            ⟨flow_cells (blk_below HXF.out hW'), by rw [blk_cell (blk_below HXX.out hW') 0]; rfl, by rw [blk_cell (blk_below HXX.out hW') 1]; rfl⟩
          clear hdx
          refine Go.DetIn.region_all (Go.DetIn.wide_round lr) (fun W' => Below w4.heap.size w4 W') (by kernel_rfl) (by kernel_rfl) (by kernel_rfl) (below_drew (Below.refl _ _)) ?_
          repeat (apply Go.DetIn.seqW_cons; focus (intro W' hS'; replace hS' : Below w4.heap.size w4 W' := hS'; obtain ⟨⟨y0, y1, y2⟩, x0, x1⟩ := HCX.out W' hS'; gi_wp2_with (refine ⟨trivial, (CallsIn.inRound lr (callsIn_wide.2 (HDX.out W' hS'))).mono ?_⟩; rintro e w5 ⟨rfl, hb5⟩; replace hS' := hS'.trans (hb5.mono hS'.size); clear hb5); exact Go.DetIn.AtEnd.mk hS'))
          refine Go.DetIn.seqW_nil ?_
          intro w5 hS5
          replace hS5 : Below w4.heap.size w4 w5 := hS5
          have hXX := blk_below HXX.out hS5
          have hXB := blk_below HXB.out hS5
          have hB5 : Below W.heap.size W w5 := below_step hBX4 hS5
          clear hS5 HCX HDX
          simp only [Exit.then]
          have x0 := blk_cell hXX 0
          have b1 := blk_cell hXB 1
          have b2 := blk_cell hXB 2
          have z1 := blk_frozen hXB 1
          have z2 := blk_frozen hXB 2
          simp only [List.getElem?_toArray, List.getElem?_cons_succ, List.getElem?_cons_zero] at x0 b1 b2
          have HXX5 := Lib.hid hXX
          have HXB5 := Lib.hid hXB
          clear hXX hXB HXF HXX HXB
          have hne : wr.heap.size ≠ W.heap.size := by have := hBr.size; have := blk_lt HBX.out; omega
          rcases HBS0.out with ⟨rfl, rfl⟩ | ⟨hb0, q, rfl, hq⟩
          · gi_wp2_with fail
            have mixed : Try.prog.follows .mixedOrders = true := by kernel_rfl
            gi_region_with_o (fail)
            all_goals
              have q6 : (((w5.setCell ⟨W.heap.size, 1, none⟩ (.int .i64 (xs + cc))).setCell ⟨W.heap.size, 2, none⟩ (.int .i64 ax)).drew).heap[W.heap.size]? = some (.cells #[.int .i64 t, .int .i64 (xs + cc), .int .i64 ax] 70 (0, 0)) := blk_drew (blk_put (blk_put HXB5.out 1 _ rfl) 2 _ rfl)
              have q7 : Below W.heap.size W (((w5.setCell ⟨W.heap.size, 1, none⟩ (.int .i64 (xs + cc))).setCell ⟨W.heap.size, 2, none⟩ (.int .i64 ax)).drew) := below_drew ((hB5.setCell (Nat.le_refl _) _).setCell (Nat.le_refl _) _)
              clear x0 b1 b2 z1 z2
              gi_wp2
              go_roundw
              case rel =>
                refine ⟨j + 1, by omega, by go_num, q7, ?_⟩
                rw [HSN.out, if_pos ⟨HLG.out, fun y hy => by cases hy⟩]
                simp only [encB, frmP]
                rw [HAX.out]
                exact q6
              case measure => simp [intOf]; omega

          · by_cases hsl : xs + cc < bs
            · have hn0 : ¬ bs < 0 := by omega
              gi_wp2_with fail
              have mixed : Try.prog.follows .mixedOrders = true := by kernel_rfl
              gi_region_with_o (fail)
              all_goals
                have q6 : (((w5.setCell ⟨W.heap.size, 1, none⟩ (.int .i64 (xs + cc))).setCell ⟨W.heap.size, 2, none⟩ (.int .i64 ax)).drew).heap[W.heap.size]? = some (.cells #[.int .i64 t, .int .i64 (xs + cc), .int .i64 ax] 70 (0, 0)) := blk_drew (blk_put (blk_put HXB5.out 1 _ rfl) 2 _ rfl)
                have q7 : Below W.heap.size W (((w5.setCell ⟨W.heap.size, 1, none⟩ (.int .i64 (xs + cc))).setCell ⟨W.heap.size, 2, none⟩ (.int .i64 ax)).drew) := below_drew ((hB5.setCell (Nat.le_refl _) _).setCell (Nat.le_refl _) _)
                clear x0 b1 b2 z1 z2
                gi_wp2
                go_roundw
                case rel =>
                  refine ⟨j + 1, by omega, by go_num, q7, ?_⟩
                  rw [HSN.out, if_pos ⟨HLG.out, fun y hy => by cases hy; rw [hq]; exact hsl⟩]
                  simp only [encB, frmP]
                  rw [HAX.out]
                  exact q6
                case measure => simp [intOf]; omega

            · have hn0 : ¬ bs < 0 := by omega
              gi_wp2
              go_roundw
              case rel =>
                refine ⟨j + 1, by omega, by go_num, hB5, ?_⟩
                rw [HSN.out, if_neg (fun h => hsl (by have := h.2 q rfl; rw [hq] at this; exact this)), HBS.out]
                exact HXB5.out
              case measure => simp [intOf]; omega
      · obtain rfl : j = pre.length + 1 := by omega
        have hlt1 : ¬ (((pre.length + 1 : Nat) : Int) < (pre.length : Int) + 1) := by omega
        obtain ⟨q, hq, hnext, hqt⟩ := HMET.out.next
        have hmat := HMET.out.at_
        rw [HWS.out] at hq hnext hmat
        rw [List.take_of_length_le (by have := HLEN.out; omega), hq] at hBx
        simp only [encB] at hBx
        have hsz := hBr.size
        have hv2 : Boxed wr (w2.heap.size + 1 + 1) 71 (.slice (some ⟨g, 0, none⟩) (pre.length + 1) cap) := blk_below HV.out hBr
        have hrow2 := pw_own_below HROW.out hBr
        have hL2 : Boxed wr (w2.heap.size + 1 + 1 + 1 + 1) 72 (.map (some (w2.heap.size + 1 + 1 + 1))) := blk_below HL2.out hBr
        have hM2 := HM2.out.kept (grown_of_below hBr none) (by simp)
        have hgb2 := blk_below HGB.out hBr
        have hvc := hv2.cell
        have bx0 := blk_cell hBx 0
        have bx1 := blk_cell hBx 1
        have bx2 := blk_cell hBx 2
        simp only [List.getElem?_toArray, List.getElem?_cons_succ, List.getElem?_cons_zero] at bx0 bx1 bx2
        have hMp := mapOk_put HD.out (q := q) (fun x hx => by rw [hqt]; exact (hmat x hx).2.1)
        rw [hqt] at hMp
        have hfl : flat70 (ws ++ [q]) = flat70 ws ++ [.int .i64 t, .int .i64 q.2, .int .i64 (frmP q.1)] := by rw [flat70_snoc, wayCells, hqt]
        have HR2 := Lib.hid hrow2
        have HM3 := Lib.hid hM2
        have HGB2 := Lib.hid hgb2
        have HBX := Lib.hid hBx
        have HV2 := Lib.hid hv2
        have HL3 := Lib.hid hL2
        have HQ := Lib.hid (And.intro hnext (And.intro hqt (And.intro hMp hfl)))
        obtain ⟨fq, hfq⟩ : ∃ f, frmP q.1 = f := ⟨_, rfl⟩
        have HFQ := Lib.hid hfq
        rw [hfq] at bx2
        generalize q.2 = qs at *
        clear hmat hq hnext hqt hMp hfl hrow2 hM2 hgb2 hBx hv2 hL2 hfq
        gi_wp2_with (gi_at_builtin; refine wpListIn_append_own _ rfl _ _ 71 rfl (w2.heap.size + 1) 70 i0 (.agg #[(.int .i64 0), (.int .i64 0), (.int .i64 0)]) 3 24 Try.underlying71 hi hz0_ hz1 hz2 rfl (by decide) _ _ _ rfl (HR2.out.alloc _) ⟨wr.heap.size, 0, none⟩ 1 1 [.int .i64 t, .int .i64 qs, .int .i64 fq] rfl rfl ?c1 ?c2 ?c3 ?c4 ?c5 ?c6)
        try (case c1 => exact cells_new wr [.int .i64 t, .int .i64 qs, .int .i64 fq] 70)
        case c2 => simp [Value.oneCell']
        case c3 => unfold maxLen; omega
        case c4 => omega
        case c5 => have := hB.size; simp; omega
        case c6 =>
          intro v' w6 hown' hgrow _
          obtain ⟨A', c', rfl⟩ := own_slice hown'
          obtain ⟨hv1, hv3, hr3, hk3, hb3⟩ := HV2.out.appended (by decide) HR2.out (show w2.heap.size + 1 ≤ wr.heap.size by have := hB.size; omega) (by omega) hown' hgrow
          have hbx7 := blk_far (blk_grown (blk_alloc HBX.out _) hgrow (fun e => by simp [Value.ownBlock] at e; omega)) (p := ⟨w2.heap.size + 1 + 1, 0, none⟩) (by have := hB.size; have := HV.out.lt; simp; omega) (.slice A' (pre.length + 1 + 1) c')
          have hL7 : Boxed (w6.setCell ⟨w2.heap.size + 1 + 1, 0, none⟩ (.slice A' (pre.length + 1 + 1) c')) (w2.heap.size + 1 + 1 + 1 + 1) 72 (.map (some (w2.heap.size + 1 + 1 + 1))) := ((HL3.out.alloc _).kept hgrow (own_apart HR2.out HL3.out (by decide))).other (by omega) _
          have hM7 := ((HM3.out.alloc (.cells #[.int .i64 t, .int .i64 qs, .int .i64 fq] 70)).kept hgrow (map_apart HM3.out HR2.out)).kept (grownBy_setCell' w6 (w2.heap.size + 1 + 1) (.slice A' (pre.length + 1 + 1) c')) (by simp <;> omega)
          have hgb7 := blk_far (blk_grown (blk_alloc HGB2.out _) hgrow (own_apart HR2.out HGB2.out (by decide))) (p := ⟨w2.heap.size + 1 + 1, 0, none⟩) (by simp <;> omega) (.slice A' (pre.length + 1 + 1) c')
          have v1 := hv1.cell
          have v2 := hv1.frozen
          have l7 := hL7.cell
          have x2 := blk_cell hbx7 2
          simp only [List.getElem?_toArray, List.getElem?_cons_succ, List.getElem?_cons_zero] at x2
          rw [HFQ.out] at x2
          have hwt : (Lit.int .i64 t).wf = true := wf_small (by omega) (by omega)
          have hfb : -1 ≤ fq ∧ fq ≤ 1000000 := by
            have hi' := inv_pre l0 a1 (pre ++ [t]) suf (by rw [show placesP l0 = placesTo l0 (l0.length + 1) from rfl, HPL.out]; simp)
            have hbq := hi'.best q (by rw [HQ.out.1]; simp)
            have := row_frm l0 q.1 hbq.1
            rw [HFQ.out] at this
            omega
          have hwf : (Lit.int .i64 fq).wf = true := wf_small (by omega) (by omega)
          have hkey : keyOf Try.prog 3 (.int .i64 t) = some (.int .i64 t) := keyOf_int_mk Try.underlying3 hwt
          have HM7 := Lib.hid hM7
          have HH := Lib.hid (And.intro hv3 (And.intro hr3 (And.intro hk3 (And.intro hb3 (And.intro hL7 hgb7)))))
          have HW := Lib.hid (And.intro hwt (And.intro hwf hkey))
          clear hM7 hv3 hr3 hk3 hb3 hL7 hgb7 hbx7 hv1 hwt hwf hkey hown' hgrow bx0 bx1 bx2 hvc
          gi_wp2_with (gi_at_mapUpdate; refine wpListIn_mapUpdate_own _ rfl _ _ _ 72 rfl 3 3 law3 Try.underlying72 _ (w2.heap.size + 1 + 1 + 1) pre.length _ rfl HM7.out (by unfold maxLen; omega) _ _ _ rfl rfl HW.out.2.2 _ [] (plainElem_int Try.underlying3 HW.out.2.1) ?_; intro w8 hown8 hgrow8)
          obtain ⟨hv3, hr3, hk3, hb3, hL7, hgb7⟩ := HH.out
          obtain ⟨hnext, hqt, hMp, hfl⟩ := HQ.out
          have hnf := hB.size
          refine ⟨rfl, ?_, ⟨?_, ?_⟩, ?_⟩
          · exact (KeepsFrom.of_grownBy (row := none) (grown_of_below hBr none) (fun _ e => by cases e)).trans ((hk3.from _).trans (KeepsFrom.of_grownBy hgrow8 (fun j hj => by cases hj; omega)))
          · exact ((hBr.mono (by omega)).trans hb3).grown hgrow8 (by have := hb3.size; omega) (fun j hj => by cases hj; omega)
          · exact ((hgrow8.block _ (blk_lt hgb7) (by simp <;> omega)).trans hgb7).trans HGB.out.symm
          · refine ⟨⟨_, hv3.kept hgrow8 (by simp <;> omega), ?_, trivial⟩, ⟨D.put (.int .i64 t) (.lit (.int .i64 fq)), hL7.kept hgrow8 (by simp <;> omega), ?_, ?_⟩, (hgrow8.block _ (blk_lt hgb7) (by simp <;> omega)).trans hgb7, (hB.trans ((hBr.mono (by omega)).trans hb3)).grown hgrow8 (by have := hb3.size; omega) (fun j hj => by cases hj; omega)⟩
            · rw [hnext, hfl, List.length_append, HLEN.out, HFQ.out]
              exact hr3.kept hgrow8 (.inr (map_apart HM7.out hr3).symm)
            · rw [List.length_append]
              exact hown8
            · rw [hnext, ← HFQ.out]
              exact hMp
  case hdone =>
    intro D W hD hIW hK
    obtain ⟨⟨v, -⟩, ⟨DM, hL, hM, hDM⟩, -, hB⟩ := hIW
    obtain ⟨i3, hj, hy0, hy1, hy2⟩ := info_parts info3h
    have hDl : D < W.heap.size := blk_lt hK
    have hBW : Below w.heap.size w W := hBF.trans (hB.mono hnF)
    obtain ⟨s, hmem, hhd, hbest⟩ := best_row OK.out
    have hinv := inv_pre l0 a1 (placesP l0) [] (by simp)
    have hrl := row_len l0 _ hbest.1
    rw [hhd] at hrl
    have HL4 := Lib.hid hL
    have HM4 := Lib.hid hM
    have HDM := Lib.hid hDM
    have HK4 := Lib.hid hK
    have HINV := Lib.hid hinv
    have hlc := hL.cell
    clear v hL hM hDM hK hinv hB b0 b1 b2 b3 b4 hI0 hhands hB0
    simp only [Exit.inBlock, Exit.then]
    go_wp2_with fail
    go_loopw [15, 16] (fun v a wr => ∃ (out p : List Int) (s x : Int), (p, s) ∈ waysP l0 a1 (placesP l0) ∧ rowR l0 a1 = out ++ p ∧ Hid (Go.DP.hd p = x) ∧ a = .int .i64 x ∧ wr.ownsRow W.heap.size 3 1 v out.length (nums .i64 out) ∧ Below W.heap.size W wr) (fun _ a _ => (intOf a + 1).toNat)
    case atStart => exact ⟨[], rowR l0 a1, s, _, hmem, rfl, Lib.hid hhd, rfl, World.ownsRow_nil _ _ _ _, Below.refl _ _⟩
    case round =>
      clear hmem hhd hbest
      obtain ⟨out, p, s, x, hmem, hrow, HX, rfl, hown, hBr⟩ := hrel
      have hbp := HINV.out.best _ hmem
      have hrp := row_len l0 p hbp.1
      rw [HX.out] at hrp
      have hol : out.length ≤ 1000001 := by
        have := congrArg List.length hrow
        rw [List.length_append] at this
        omega
      have HROW := Lib.hid hrow
      have HMEM := Lib.hid hmem
      have HOWN := Lib.hid hown
      have HBP := Lib.hid hbp
      have hsz := hBr.size
      clear hrow hmem hown hbp hlc
      by_cases hx0 : 0 ≤ x
      · have hnx : ¬ x < 0 := by omega
        go_wp2_with (at_builtin; refine wpList_append_own _ rfl _ _ 25 rfl W.heap.size 3 i3 (.int .i64 0) 1 8 Try.underlying25 hj hy0 hy1 hy2 rfl (by decide) _ _ _ rfl (HOWN.out.alloc _) ⟨wr.heap.size, 0, none⟩ 1 1 [.int .i64 x] rfl rfl ?b1 ?b2 ?b3 ?b4 ?b5 ?b6)
        try (case b1 => exact cells_new wr [.int .i64 x] 3)
        case b2 => simp [Value.oneCell']
        case b3 => unfold maxLen; omega
        case b4 => omega
        case b5 => first | omega | (simp; omega)
        case b6 =>
          intro v5 w5 hown5 hgrow5 _
          have hB5 : Below W.heap.size W w5 := (hBr.alloc hBr.size _).grown hgrow5 (by simp; omega) fun j hj => own_base HOWN.out j hj
          have hL5 : Boxed w5 (w2.heap.size + 1 + 1 + 1 + 1) 72 (.map (some (w2.heap.size + 1 + 1 + 1))) := blk_below HL4.out hB5
          have hM5 := HM4.out.kept (grown_of_below hB5 none) (by simp)
          have l5 := hL5.cell
          have hkey : keyOf Try.prog 3 (.int .i64 x) = some (.int .i64 x) := keyOf_int_mk Try.underlying3 (wf_small (by omega) (by omega))
          have HM5 := Lib.hid hM5
          have HO5 := Lib.hid hown5
          have HKEY := Lib.hid hkey
          clear hM5 hown5 hkey hgrow5 hL5
          go_wp2_with (at_lookup; refine wpList_lookup_own_int _ rfl _ _ 72 rfl 3 3 .i64 law3 Try.underlying72 Try.underlying3 (zero3 _) (w2.heap.size + 1 + 1 + 1) _ _ rfl HM5.out _ _ rfl HKEY.out ?_; intro c hat hwc)
          obtain ⟨at_, r, rfl⟩ : ∃ at_ r, p = at_ :: r := by
            cases p with
            | nil => have := HX.out; simp only [Go.DP.hd] at this; omega
            | cons a r => exact ⟨a, r, rfl⟩
          have hx1 : at_ = x := HX.out
          have hlt := HBP.out.1.2.1
          have htail : ∃ s', (r, s') ∈ waysP l0 a1 (placesP l0) := by
            rcases HINV.out.tail _ HMEM.out with h | ⟨s', h⟩
            · cases h
            · exact ⟨s', h⟩
          obtain ⟨s', htail⟩ := htail
          have hat2 := HDM.out.at_ _ HMEM.out (by simp)
          have hc : c = Go.DP.hd r := by
            have h1 := hat2 (.lit (.int .i64 0))
            rw [show Go.DP.hd (at_ :: r, s).1 = x from HX.out, hat] at h1
            cases h1
            rfl
          subst hc
          have hcl : Go.DP.hd r < x := by rw [← hx1]; exact hlt
          have HC2 := Lib.hid hat
          clear hat hat2 hlt hx1
          go_roundw
          case rel =>
            refine ⟨out ++ [at_], r, s', _, htail, by rw [HROW.out]; simp, Lib.hid rfl, rfl, ?_, hB5⟩
            rw [List.length_append, nums_append]
            rw [show at_ = x from HX.out]
            exact HO5.out
          case measure => simp [intOf]; omega
      · have hnx : x < 0 := by omega
        obtain rfl : p = [] := by
          cases p with
          | nil => rfl
          | cons a r =>
            have h1 := place_le HBP.out.1.1
            have h2 : a = x := HX.out
            omega
        have hrow := HROW.out
        rw [List.append_nil] at hrow
        obtain ⟨K, hK⟩ := reverse_ev out (by have := congrArg List.length hrow; have := OK.out.len; omega)
        have hR := own_RI HOWN.out w.heap.size hBW.size (fun k => k ≠ D) (fun k hk => by have := own_base HOWN.out k hk; omega)
        have hBB := hBW.trans (hBr.mono hBW.size)
        have hrc := slices_Reverse_int_int.calls K (fun k => k ≠ D) _ out out.reverse w wr hBB hR (hK K (Nat.le_refl _))
        rw [← hrow] at hrc
        have HRC := Lib.hid hrc
        have hKr : wr.heap[D]? = some (.deferred (some [])) := blk_below HK4.out hBr
        have HKR := Lib.hid hKr
        obtain ⟨A9, c9, rfl⟩ := own_slice HOWN.out
        clear hrc hKr hrow hR hK
        go_wp2_with fail
        refine HRC.out.mono ?_
        rintro e w7 ⟨rfl, hR7, hB7, hK7⟩
        have hK2 : w7.heap[D]? = some (.deferred (some [])) := (hK7.2 D (blk_lt HKR.out) (by simp)).trans HKR.out
        have HR7 := Lib.hid hR7
        have HK7 := Lib.hid hK2
        clear hR7 hK7 hK2
        go_wp2
        refine ⟨by simp, .inl ⟨_, _, rfl, run_takeDeferred HK7.out, ?_⟩⟩
        have hDw : D < wr.heap.size := blk_lt HKR.out
        have hR8 := Kd.R_mono (Kd.R_grown HR7.out (grownBy_putObj' w7 D (.deferred none)) (fun k hk => by
          intro e
          have := Option.some.inj e
          rcases hk with hk | hk
          · exact hk this
          · omega)) (ok' := fun _ => True) (fun _ _ => trivial)
        have hB8 := hB7.trans (belowK_b (w := w) (Nat.le_refl _) w7 D (.deferred (some [])) (.deferred none) (by have := hBW.size; omega) HK7.out rfl rfl)
        exact ⟨_, results_tmp2 rfl _ _ _, _, rfl, hR8, hB8⟩
/-- best.Of -/
theorem best_Of.calls (A0 : Option Addr) (c0 : Nat) (l0 : List S43) (a1 : Int) (r1 : List Int) (r2 : Int) (w : World) (hr0 : Kd.C k43 w A0 l0.length l0) (hc0 : l0.length ≤ c0) (h : best_Of.f l0 a1 = some (r1, r2)) :
    Calls Try.prog 13 #[.slice A0 l0.length c0, .int .i64 a1] w fun e w' => ∃ v, e = .returned (.tuple #[v, .int .i64 r2]) ∧ Kd.R (Kd.int .i64) 3 w' w.heap.size (fun _ => True) v r1 ∧ Below w.heap.size w w' := by
  unfold best_Of.f at h
  split at h
  · rename_i hl
    replace h := Option.some.inj h
    unfold ofP at h
    rcases check_01 l0 a1 with hk | hk
    · rw [if_pos hk] at h
      cases h
      exact of_good A0 c0 l0 a1 w hl hr0 hc0 hk
    · rw [if_neg (by rw [hk]; simp), hk] at h
      cases h
      refine (of_bad A0 c0 l0 a1 w hr0 hc0 hk).mono ?_
      rintro e w' ⟨rfl, hb⟩
      exact ⟨_, rfl, Kd.R_nil _ _ _ _ _, hb⟩
  · cases h
end Go.Proofs.Ytbddfnmhhmkfkaa.Pr
/- Walks of the Go functions of this seat, and the Lean functions that they come to: written by a program (mkprint.py over the kit's print). -/
namespace Go.Proofs.Ytbddfnmhhmkfkaa.Pr
open Go.RowKit Go.Proofs.YtbddfnmhhmkfkaaW.PrintWords Go.Proofs.YtbddfnmhhmkfkaaW.PrintLast Go.Proofs.YtbddfnmhhmkfkaaW.PrintMore
attribute [local go_sem] max2_int min2_int max_two min_two max_three min_three max_four min_four   -- for this text's walks alone
set_option linter.unusedVariables false
set_option linter.unusedSimpArgs false

/-! ### styluslaw19_broken: function 42 -/
def styluslaw19_broken.f (k : Nat) (a0 : ByteArray) (a1 : Int) (l2 : List Int) : Option (Bool) := (styluslaw19_of.f k a0).bind fun t149 => ((best_Of.f t149 30).bind fun bt152 => ((styluslaw19_of.f k a0).bind fun t156 => ((best_Demerits.f t156 30 l2).bind fun bt159 => (if bt152.2 = 0 then ((styluslaw19_same.f k bt152.1 l2).bind fun t161 => (if t161 = true then (if bt159.2 = 0 then (some (bt159.1 == a1)) else (some false)) else (some false))) else (some false)))))
theorem styluslaw19_broken.mono : ∀ a0 a1 a2 k, LeO (styluslaw19_broken.f k a0 a1 a2) (styluslaw19_broken.f (k + 1) a0 a1 a2) := by
  intro a0 a1 a2 k
  unfold styluslaw19_broken.f
  repeat' first
      | (with_reducible exact styluslaw19_of.mono _ _)
      | (with_reducible exact styluslaw19_same.mono _ _ _)
      | (with_reducible exact LeO.refl _)
      | (with_reducible exact LeO.none _)
      | (with_reducible refine LeO.ite ?_ ?_)
      | (with_reducible refine LeO.bind ?_ (fun _ => ?_))
      | exact styluslaw19_of.mono _ _
      | exact styluslaw19_same.mono _ _ _
      | exact LeO.none _
      | refine LeO.ite ?_ ?_
      | refine LeO.bind ?_ (fun _ => ?_)
set_option maxHeartbeats 8000000 in
set_option maxRecDepth 100000 in
theorem styluslaw19_broken.calls (k : Nat) (a0 : ByteArray) (a1 : Int) (A2 : Option Addr) (c2 : Nat) (l2 : List Int) (r : Bool) (w : World) (hr2 : Kd.C (Kd.int .i64) w A2 l2.length l2) (hc2 : l2.length ≤ c2) (h : styluslaw19_broken.f k a0 a1 l2 = some r) :
    Calls Try.prog 42 #[.string a0, .int .i64 a1, .slice A2 l2.length c2] w fun e w' => e = .returned (.bool r) ∧ Below w.heap.size w w' := by
  have HR2 := Aside0.mk hr2
  have HC2 := Aside0.mk hc2
  clear hr2 hc2
  have HB := Aside0.mk (Below.refl w.heap.size w)
  have H : ((styluslaw19_of.f k a0).bind fun t149 => ((best_Of.f t149 30).bind fun bt152 => ((styluslaw19_of.f k a0).bind fun t156 => ((best_Demerits.f t156 30 l2).bind fun bt159 => (if bt152.2 = 0 then ((styluslaw19_same.f k bt152.1 l2).bind fun t161 => (if t161 = true then (if bt159.2 = 0 then (some (bt159.1 == a1)) else (some false)) else (some false))) else (some false)))))) = some r := h
  clear h
  replace H := Option.bind_eq_some_iff.mp H
  obtain ⟨t149, A40, H⟩ := H
  replace H : ((best_Of.f t149 30).bind fun bt152 => ((styluslaw19_of.f k a0).bind fun t156 => ((best_Demerits.f t156 30 l2).bind fun bt159 => (if bt152.2 = 0 then ((styluslaw19_same.f k bt152.1 l2).bind fun t161 => (if t161 = true then (if bt159.2 = 0 then (some (bt159.1 == a1)) else (some false)) else (some false))) else (some false))))) = some r := H
  have A4 := Aside0.mk A40
  clear A40
  replace H := Option.bind_eq_some_iff.mp H
  obtain ⟨⟨t152, t153⟩, A50, H⟩ := H
  replace H : ((styluslaw19_of.f k a0).bind fun t156 => ((best_Demerits.f t156 30 l2).bind fun bt159 => (if t153 = 0 then ((styluslaw19_same.f k t152 l2).bind fun t161 => (if t161 = true then (if bt159.2 = 0 then (some (bt159.1 == a1)) else (some false)) else (some false))) else (some false)))) = some r := H
  have A5 := Aside0.mk A50
  clear A50
  replace H := Option.bind_eq_some_iff.mp H
  obtain ⟨t156, A60, H⟩ := H
  replace H : ((best_Demerits.f t156 30 l2).bind fun bt159 => (if t153 = 0 then ((styluslaw19_same.f k t152 l2).bind fun t161 => (if t161 = true then (if bt159.2 = 0 then (some (bt159.1 == a1)) else (some false)) else (some false))) else (some false))) = some r := H
  have A6 := Aside0.mk A60
  clear A60
  replace H := Option.bind_eq_some_iff.mp H
  obtain ⟨⟨t159, t160⟩, A70, H⟩ := H
  replace H : (if t153 = 0 then ((styluslaw19_same.f k t152 l2).bind fun t161 => (if t161 = true then (if t160 = 0 then (some (t159 == a1)) else (some false)) else (some false))) else (some false)) = some r := H
  have A7 := Aside0.mk A70
  clear A70
  by_cases c8 : t153 = 0
  · rw [if_pos c8] at H
    have c8b0 : (t153 == 0) = true := beq_iff_eq.mpr c8
    have c8b1 : (t153 != 0) = false := bne_eq_false_iff_eq.mpr c8
    clear c8
    replace H := Option.bind_eq_some_iff.mp H
    obtain ⟨t161, A90, H⟩ := H
    replace H : (if t161 = true then (if t160 = 0 then (some (t159 == a1)) else (some false)) else (some false)) = some r := H
    have A9 := Aside0.mk A90
    clear A90
    by_cases c10 : t161 = true
    · subst c10
      have H1 : (if t160 = 0 then (some (t159 == a1)) else (some false)) = some r := by rw [if_pos rfl] at H; exact H
      clear H
      have H := H1
      clear H1
      by_cases c11 : t160 = 0
      · rw [if_pos c11] at H
        have c11b0 : (t160 == 0) = true := beq_iff_eq.mpr c11
        have c11b1 : (t160 != 0) = false := bne_eq_false_iff_eq.mpr c11
        clear c11
        obtain rfl := Option.some.inj H
        go_enter Try.func42, Try.ntmps42
        go_wp2_with (first | ((with_reducible refine gate_callee (f := 41) rfl ?_); refine goesL_ (some 13) rfl rfl Try.func41 (by kernel_rfl) rfl #[.string a0] rfl (by (try simp only [List.map_toArray, List.map_cons, List.map_nil]); first | done | rfl | (simp only [List.length_drop, List.length_take]; rfl)) ?_; (with_reducible refine (styluslaw19_of.calls k a0 t149 _ A4.out).mono ?_); rintro e w12 ⟨v150, rfl, ho0, hb⟩; refine ⟨_, rfl, ?_⟩; have n0_ := Aside0.mk (Kd.R_lower ho0 (below_size (by repeat (first | (with_reducible first | exact HB.out | apply below_alloc | apply pw_below_drewN | apply below_drew1) | exact HB.out)))); have n1_ := Aside0.mk (below_step (by repeat (first | (with_reducible first | exact HB.out | apply below_alloc | apply pw_below_drewN | apply below_drew1) | exact HB.out)) hb); clear HB; have HO151 := n0_; have HB := n1_; clear n0_ n1_; (try clear hb); (try clear hb2); (try clear hk); (try clear hi); (try clear ho0); obtain ⟨Ao13, co13, eo13⟩ := Kd.R_slice HO151.out; subst eo13) | ((with_reducible refine gate_callee (f := 13) rfl ?_); refine goesL_ (some 14) rfl rfl Try.func13 (by kernel_rfl) rfl #[.slice Ao13 t149.length co13, .int .i64 30] rfl (by (try simp only [List.map_toArray, List.map_cons, List.map_nil]); first | done | rfl | (simp only [List.length_drop, List.length_take]; rfl)) ?_; (with_reducible refine (best_Of.calls _ _ t149 30 t152 t153 _ ?side1 ?side2 A5.out).mono ?_); (case side1 => repeat (first | exact (Kd.R_reads' HO151.out).2.2 | (with_reducible refine Kd.C_alloc ?_ _) | (with_reducible refine Kd.C_drewN ?_ _) | (with_reducible refine Kd.C_drew ?_))); (case side2 => exact (Kd.R_reads' HO151.out).2.1); rintro e w14 ⟨v154, rfl, ho0, hb⟩; refine ⟨_, rfl, ?_⟩; have n0_ := Aside0.mk (Kd.R_below (by (with_reducible repeat (first | apply Kd.R_alloc | apply Kd.R_drewN | apply Kd.R_drew)); exact HO151.out) hb); have n1_ := Aside0.mk (Kd.R_lower ho0 (below_size (by repeat (first | (with_reducible first | exact HB.out | apply below_alloc | apply pw_below_drewN | apply below_drew1) | exact HB.out)))); have n2_ := Aside0.mk (below_step (by repeat (first | (with_reducible first | exact HB.out | apply below_alloc | apply pw_below_drewN | apply below_drew1) | exact HB.out)) hb); clear HO151; clear HB; have HO151 := n0_; have HO155 := n1_; have HB := n2_; clear n0_ n1_ n2_; (try clear hb); (try clear hb2); (try clear hk); (try clear hi); (try clear ho0)) | ((with_reducible refine gate_callee (f := 41) rfl ?_); refine goesL_ (some 19) rfl rfl Try.func41 (by kernel_rfl) rfl #[.string a0] rfl (by (try simp only [List.map_toArray, List.map_cons, List.map_nil]); first | done | rfl | (simp only [List.length_drop, List.length_take]; rfl)) ?_; (with_reducible refine (styluslaw19_of.calls k a0 t156 _ A6.out).mono ?_); rintro e w15 ⟨v157, rfl, ho0, hb⟩; refine ⟨_, rfl, ?_⟩; have n0_ := Aside0.mk (Kd.R_elder' (by (with_reducible repeat (first | apply Kd.R_alloc | apply Kd.R_drewN | apply Kd.R_drew)); exact HO151.out) (Kd.R_base ho0) hb); have n1_ := Aside0.mk (Kd.R_below (by (with_reducible repeat (first | apply Kd.R_alloc | apply Kd.R_drewN | apply Kd.R_drew)); exact HO155.out) hb); have n2_ := Aside0.mk (Kd.R_lower (Kd.R_new' ho0 (Kd.R_lt (by (with_reducible repeat (first | apply Kd.R_alloc | apply Kd.R_drewN | apply Kd.R_drew)); exact HO151.out))) (below_size (by repeat (first | (with_reducible first | exact HB.out | apply below_alloc | apply pw_below_drewN | apply below_drew1) | exact HB.out)))); have n3_ := Aside0.mk (below_step (by repeat (first | (with_reducible first | exact HB.out | apply below_alloc | apply pw_below_drewN | apply below_drew1) | exact HB.out)) hb); clear HO151; clear HO155; clear HB; have HO151 := n0_; have HO155 := n1_; have HO158 := n2_; have HB := n3_; clear n0_ n1_ n2_ n3_; (try clear hb); (try clear hb2); (try clear hk); (try clear hi); (try clear ho0); obtain ⟨Ao16, co16, eo16⟩ := Kd.R_slice HO158.out; subst eo16) | ((with_reducible refine gate_callee (f := 21) rfl ?_); refine goesL_ (some 21) rfl rfl Try.func21 (by kernel_rfl) rfl #[.slice Ao16 t156.length co16, .int .i64 30, .slice A2 l2.length c2] rfl (by (try simp only [List.map_toArray, List.map_cons, List.map_nil]); first | done | rfl | (simp only [List.length_drop, List.length_take]; rfl)) ?_; (with_reducible refine (best_Demerits.calls _ _ t156 30 _ _ l2 t159 t160 _ ?side1 ?side2 ?side3 ?side4 A7.out).mono ?_); (case side1 => repeat (first | exact (Kd.R_reads' HO158.out).2.2 | (with_reducible refine Kd.C_alloc ?_ _) | (with_reducible refine Kd.C_drewN ?_ _) | (with_reducible refine Kd.C_drew ?_))); (case side2 => exact (Kd.R_reads' HO158.out).2.1); (case side3 => repeat (first | exact (Kd.C_below HR2.out HB.out) | (with_reducible refine Kd.C_alloc ?_ _) | (with_reducible refine Kd.C_drewN ?_ _) | (with_reducible refine Kd.C_drew ?_))); (case side4 => exact HC2.out); rintro e w17 ⟨rfl, hb⟩; refine ⟨_, rfl, ?_⟩; have n0_ := Aside0.mk (Kd.R_below (by (with_reducible repeat (first | apply Kd.R_alloc | apply Kd.R_drewN | apply Kd.R_drew)); exact HO151.out) hb); have n1_ := Aside0.mk (Kd.R_below (by (with_reducible repeat (first | apply Kd.R_alloc | apply Kd.R_drewN | apply Kd.R_drew)); exact HO155.out) hb); have n2_ := Aside0.mk (Kd.R_below (by (with_reducible repeat (first | apply Kd.R_alloc | apply Kd.R_drewN | apply Kd.R_drew)); exact HO158.out) hb); have n3_ := Aside0.mk (below_step (by repeat (first | (with_reducible first | exact HB.out | apply below_alloc | apply pw_below_drewN | apply below_drew1) | exact HB.out)) hb); clear HO151; clear HO155; clear HO158; clear HB; have HO151 := n0_; have HO155 := n1_; have HO158 := n2_; have HB := n3_; clear n0_ n1_ n2_ n3_; (try clear hb); (try clear hb2); (try clear hk); (try clear hi); obtain ⟨Ao18, co18, eo18⟩ := Kd.R_slice HO155.out; subst eo18) | (go_at_call 15; (with_reducible refine (styluslaw19_same.calls k _ _ t152 _ _ l2 true _ ?side1 ?side2 ?side3 ?side4 A9.out).mono ?_); (case side1 => repeat (first | exact (Kd.R_reads' HO155.out).2.2 | (with_reducible refine Kd.C_alloc ?_ _) | (with_reducible refine Kd.C_drewN ?_ _) | (with_reducible refine Kd.C_drew ?_))); (case side2 => exact (Kd.R_reads' HO155.out).2.1); (case side3 => repeat (first | exact (Kd.C_below HR2.out HB.out) | (with_reducible refine Kd.C_alloc ?_ _) | (with_reducible refine Kd.C_drewN ?_ _) | (with_reducible refine Kd.C_drew ?_))); (case side4 => exact HC2.out); rintro e w' ⟨rfl, ⟨nd, rfl⟩⟩))
        go_ret
        exact ⟨by first | rfl | (simp [errW_none, errW_some] <;> rfl) | (simp [*, errW_none, errW_some] <;> rfl), by repeat (first | (with_reducible first | exact HB.out | apply below_alloc | apply pw_below_drewN | apply below_drew1) | exact HB.out)⟩
      · rw [if_neg c11] at H
        have c11b0 : (t160 == 0) = false := beq_eq_false_iff_ne.mpr c11
        have c11b1 : (t160 != 0) = true := bne_iff_ne.mpr c11
        obtain rfl := Option.some.inj H
        go_enter Try.func42, Try.ntmps42
        go_wp2_with (first | ((with_reducible refine gate_callee (f := 41) rfl ?_); refine goesL_ (some 13) rfl rfl Try.func41 (by kernel_rfl) rfl #[.string a0] rfl (by (try simp only [List.map_toArray, List.map_cons, List.map_nil]); first | done | rfl | (simp only [List.length_drop, List.length_take]; rfl)) ?_; (with_reducible refine (styluslaw19_of.calls k a0 t149 _ A4.out).mono ?_); rintro e w19 ⟨v150, rfl, ho0, hb⟩; refine ⟨_, rfl, ?_⟩; have n0_ := Aside0.mk (Kd.R_lower ho0 (below_size (by repeat (first | (with_reducible first | exact HB.out | apply below_alloc | apply pw_below_drewN | apply below_drew1) | exact HB.out)))); have n1_ := Aside0.mk (below_step (by repeat (first | (with_reducible first | exact HB.out | apply below_alloc | apply pw_below_drewN | apply below_drew1) | exact HB.out)) hb); clear HB; have HO151 := n0_; have HB := n1_; clear n0_ n1_; (try clear hb); (try clear hb2); (try clear hk); (try clear hi); (try clear ho0); obtain ⟨Ao20, co20, eo20⟩ := Kd.R_slice HO151.out; subst eo20) | ((with_reducible refine gate_callee (f := 13) rfl ?_); refine goesL_ (some 14) rfl rfl Try.func13 (by kernel_rfl) rfl #[.slice Ao20 t149.length co20, .int .i64 30] rfl (by (try simp only [List.map_toArray, List.map_cons, List.map_nil]); first | done | rfl | (simp only [List.length_drop, List.length_take]; rfl)) ?_; (with_reducible refine (best_Of.calls _ _ t149 30 t152 t153 _ ?side1 ?side2 A5.out).mono ?_); (case side1 => repeat (first | exact (Kd.R_reads' HO151.out).2.2 | (with_reducible refine Kd.C_alloc ?_ _) | (with_reducible refine Kd.C_drewN ?_ _) | (with_reducible refine Kd.C_drew ?_))); (case side2 => exact (Kd.R_reads' HO151.out).2.1); rintro e w21 ⟨v154, rfl, ho0, hb⟩; refine ⟨_, rfl, ?_⟩; have n0_ := Aside0.mk (Kd.R_below (by (with_reducible repeat (first | apply Kd.R_alloc | apply Kd.R_drewN | apply Kd.R_drew)); exact HO151.out) hb); have n1_ := Aside0.mk (Kd.R_lower ho0 (below_size (by repeat (first | (with_reducible first | exact HB.out | apply below_alloc | apply pw_below_drewN | apply below_drew1) | exact HB.out)))); have n2_ := Aside0.mk (below_step (by repeat (first | (with_reducible first | exact HB.out | apply below_alloc | apply pw_below_drewN | apply below_drew1) | exact HB.out)) hb); clear HO151; clear HB; have HO151 := n0_; have HO155 := n1_; have HB := n2_; clear n0_ n1_ n2_; (try clear hb); (try clear hb2); (try clear hk); (try clear hi); (try clear ho0)) | ((with_reducible refine gate_callee (f := 41) rfl ?_); refine goesL_ (some 19) rfl rfl Try.func41 (by kernel_rfl) rfl #[.string a0] rfl (by (try simp only [List.map_toArray, List.map_cons, List.map_nil]); first | done | rfl | (simp only [List.length_drop, List.length_take]; rfl)) ?_; (with_reducible refine (styluslaw19_of.calls k a0 t156 _ A6.out).mono ?_); rintro e w22 ⟨v157, rfl, ho0, hb⟩; refine ⟨_, rfl, ?_⟩; have n0_ := Aside0.mk (Kd.R_elder' (by (with_reducible repeat (first | apply Kd.R_alloc | apply Kd.R_drewN | apply Kd.R_drew)); exact HO151.out) (Kd.R_base ho0) hb); have n1_ := Aside0.mk (Kd.R_below (by (with_reducible repeat (first | apply Kd.R_alloc | apply Kd.R_drewN | apply Kd.R_drew)); exact HO155.out) hb); have n2_ := Aside0.mk (Kd.R_lower (Kd.R_new' ho0 (Kd.R_lt (by (with_reducible repeat (first | apply Kd.R_alloc | apply Kd.R_drewN | apply Kd.R_drew)); exact HO151.out))) (below_size (by repeat (first | (with_reducible first | exact HB.out | apply below_alloc | apply pw_below_drewN | apply below_drew1) | exact HB.out)))); have n3_ := Aside0.mk (below_step (by repeat (first | (with_reducible first | exact HB.out | apply below_alloc | apply pw_below_drewN | apply below_drew1) | exact HB.out)) hb); clear HO151; clear HO155; clear HB; have HO151 := n0_; have HO155 := n1_; have HO158 := n2_; have HB := n3_; clear n0_ n1_ n2_ n3_; (try clear hb); (try clear hb2); (try clear hk); (try clear hi); (try clear ho0); obtain ⟨Ao23, co23, eo23⟩ := Kd.R_slice HO158.out; subst eo23) | ((with_reducible refine gate_callee (f := 21) rfl ?_); refine goesL_ (some 21) rfl rfl Try.func21 (by kernel_rfl) rfl #[.slice Ao23 t156.length co23, .int .i64 30, .slice A2 l2.length c2] rfl (by (try simp only [List.map_toArray, List.map_cons, List.map_nil]); first | done | rfl | (simp only [List.length_drop, List.length_take]; rfl)) ?_; (with_reducible refine (best_Demerits.calls _ _ t156 30 _ _ l2 t159 t160 _ ?side1 ?side2 ?side3 ?side4 A7.out).mono ?_); (case side1 => repeat (first | exact (Kd.R_reads' HO158.out).2.2 | (with_reducible refine Kd.C_alloc ?_ _) | (with_reducible refine Kd.C_drewN ?_ _) | (with_reducible refine Kd.C_drew ?_))); (case side2 => exact (Kd.R_reads' HO158.out).2.1); (case side3 => repeat (first | exact (Kd.C_below HR2.out HB.out) | (with_reducible refine Kd.C_alloc ?_ _) | (with_reducible refine Kd.C_drewN ?_ _) | (with_reducible refine Kd.C_drew ?_))); (case side4 => exact HC2.out); rintro e w24 ⟨rfl, hb⟩; refine ⟨_, rfl, ?_⟩; have n0_ := Aside0.mk (Kd.R_below (by (with_reducible repeat (first | apply Kd.R_alloc | apply Kd.R_drewN | apply Kd.R_drew)); exact HO151.out) hb); have n1_ := Aside0.mk (Kd.R_below (by (with_reducible repeat (first | apply Kd.R_alloc | apply Kd.R_drewN | apply Kd.R_drew)); exact HO155.out) hb); have n2_ := Aside0.mk (Kd.R_below (by (with_reducible repeat (first | apply Kd.R_alloc | apply Kd.R_drewN | apply Kd.R_drew)); exact HO158.out) hb); have n3_ := Aside0.mk (below_step (by repeat (first | (with_reducible first | exact HB.out | apply below_alloc | apply pw_below_drewN | apply below_drew1) | exact HB.out)) hb); clear HO151; clear HO155; clear HO158; clear HB; have HO151 := n0_; have HO155 := n1_; have HO158 := n2_; have HB := n3_; clear n0_ n1_ n2_ n3_; (try clear hb); (try clear hb2); (try clear hk); (try clear hi); obtain ⟨Ao25, co25, eo25⟩ := Kd.R_slice HO155.out; subst eo25) | (go_at_call 15; (with_reducible refine (styluslaw19_same.calls k _ _ t152 _ _ l2 true _ ?side1 ?side2 ?side3 ?side4 A9.out).mono ?_); (case side1 => repeat (first | exact (Kd.R_reads' HO155.out).2.2 | (with_reducible refine Kd.C_alloc ?_ _) | (with_reducible refine Kd.C_drewN ?_ _) | (with_reducible refine Kd.C_drew ?_))); (case side2 => exact (Kd.R_reads' HO155.out).2.1); (case side3 => repeat (first | exact (Kd.C_below HR2.out HB.out) | (with_reducible refine Kd.C_alloc ?_ _) | (with_reducible refine Kd.C_drewN ?_ _) | (with_reducible refine Kd.C_drew ?_))); (case side4 => exact HC2.out); rintro e w' ⟨rfl, ⟨nd, rfl⟩⟩))
        go_ret
        exact ⟨by first | rfl | (simp [errW_none, errW_some] <;> rfl) | (simp [*, errW_none, errW_some] <;> rfl), by repeat (first | (with_reducible first | exact HB.out | apply below_alloc | apply pw_below_drewN | apply below_drew1) | exact HB.out)⟩
    · replace c10 := Bool.eq_false_iff.mpr c10
      subst c10
      have H1 : (some false) = some r := by rw [if_neg (show ¬ (false = true) by decide)] at H; exact H
      clear H
      have H := H1
      clear H1
      obtain rfl := Option.some.inj H
      go_enter Try.func42, Try.ntmps42
      go_wp2_with (first | ((with_reducible refine gate_callee (f := 41) rfl ?_); refine goesL_ (some 13) rfl rfl Try.func41 (by kernel_rfl) rfl #[.string a0] rfl (by (try simp only [List.map_toArray, List.map_cons, List.map_nil]); first | done | rfl | (simp only [List.length_drop, List.length_take]; rfl)) ?_; (with_reducible refine (styluslaw19_of.calls k a0 t149 _ A4.out).mono ?_); rintro e w26 ⟨v150, rfl, ho0, hb⟩; refine ⟨_, rfl, ?_⟩; have n0_ := Aside0.mk (Kd.R_lower ho0 (below_size (by repeat (first | (with_reducible first | exact HB.out | apply below_alloc | apply pw_below_drewN | apply below_drew1) | exact HB.out)))); have n1_ := Aside0.mk (below_step (by repeat (first | (with_reducible first | exact HB.out | apply below_alloc | apply pw_below_drewN | apply below_drew1) | exact HB.out)) hb); clear HB; have HO151 := n0_; have HB := n1_; clear n0_ n1_; (try clear hb); (try clear hb2); (try clear hk); (try clear hi); (try clear ho0); obtain ⟨Ao27, co27, eo27⟩ := Kd.R_slice HO151.out; subst eo27) | ((with_reducible refine gate_callee (f := 13) rfl ?_); refine goesL_ (some 14) rfl rfl Try.func13 (by kernel_rfl) rfl #[.slice Ao27 t149.length co27, .int .i64 30] rfl (by (try simp only [List.map_toArray, List.map_cons, List.map_nil]); first | done | rfl | (simp only [List.length_drop, List.length_take]; rfl)) ?_; (with_reducible refine (best_Of.calls _ _ t149 30 t152 t153 _ ?side1 ?side2 A5.out).mono ?_); (case side1 => repeat (first | exact (Kd.R_reads' HO151.out).2.2 | (with_reducible refine Kd.C_alloc ?_ _) | (with_reducible refine Kd.C_drewN ?_ _) | (with_reducible refine Kd.C_drew ?_))); (case side2 => exact (Kd.R_reads' HO151.out).2.1); rintro e w28 ⟨v154, rfl, ho0, hb⟩; refine ⟨_, rfl, ?_⟩; have n0_ := Aside0.mk (Kd.R_below (by (with_reducible repeat (first | apply Kd.R_alloc | apply Kd.R_drewN | apply Kd.R_drew)); exact HO151.out) hb); have n1_ := Aside0.mk (Kd.R_lower ho0 (below_size (by repeat (first | (with_reducible first | exact HB.out | apply below_alloc | apply pw_below_drewN | apply below_drew1) | exact HB.out)))); have n2_ := Aside0.mk (below_step (by repeat (first | (with_reducible first | exact HB.out | apply below_alloc | apply pw_below_drewN | apply below_drew1) | exact HB.out)) hb); clear HO151; clear HB; have HO151 := n0_; have HO155 := n1_; have HB := n2_; clear n0_ n1_ n2_; (try clear hb); (try clear hb2); (try clear hk); (try clear hi); (try clear ho0)) | ((with_reducible refine gate_callee (f := 41) rfl ?_); refine goesL_ (some 19) rfl rfl Try.func41 (by kernel_rfl) rfl #[.string a0] rfl (by (try simp only [List.map_toArray, List.map_cons, List.map_nil]); first | done | rfl | (simp only [List.length_drop, List.length_take]; rfl)) ?_; (with_reducible refine (styluslaw19_of.calls k a0 t156 _ A6.out).mono ?_); rintro e w29 ⟨v157, rfl, ho0, hb⟩; refine ⟨_, rfl, ?_⟩; have n0_ := Aside0.mk (Kd.R_elder' (by (with_reducible repeat (first | apply Kd.R_alloc | apply Kd.R_drewN | apply Kd.R_drew)); exact HO151.out) (Kd.R_base ho0) hb); have n1_ := Aside0.mk (Kd.R_below (by (with_reducible repeat (first | apply Kd.R_alloc | apply Kd.R_drewN | apply Kd.R_drew)); exact HO155.out) hb); have n2_ := Aside0.mk (Kd.R_lower (Kd.R_new' ho0 (Kd.R_lt (by (with_reducible repeat (first | apply Kd.R_alloc | apply Kd.R_drewN | apply Kd.R_drew)); exact HO151.out))) (below_size (by repeat (first | (with_reducible first | exact HB.out | apply below_alloc | apply pw_below_drewN | apply below_drew1) | exact HB.out)))); have n3_ := Aside0.mk (below_step (by repeat (first | (with_reducible first | exact HB.out | apply below_alloc | apply pw_below_drewN | apply below_drew1) | exact HB.out)) hb); clear HO151; clear HO155; clear HB; have HO151 := n0_; have HO155 := n1_; have HO158 := n2_; have HB := n3_; clear n0_ n1_ n2_ n3_; (try clear hb); (try clear hb2); (try clear hk); (try clear hi); (try clear ho0); obtain ⟨Ao30, co30, eo30⟩ := Kd.R_slice HO158.out; subst eo30) | ((with_reducible refine gate_callee (f := 21) rfl ?_); refine goesL_ (some 21) rfl rfl Try.func21 (by kernel_rfl) rfl #[.slice Ao30 t156.length co30, .int .i64 30, .slice A2 l2.length c2] rfl (by (try simp only [List.map_toArray, List.map_cons, List.map_nil]); first | done | rfl | (simp only [List.length_drop, List.length_take]; rfl)) ?_; (with_reducible refine (best_Demerits.calls _ _ t156 30 _ _ l2 t159 t160 _ ?side1 ?side2 ?side3 ?side4 A7.out).mono ?_); (case side1 => repeat (first | exact (Kd.R_reads' HO158.out).2.2 | (with_reducible refine Kd.C_alloc ?_ _) | (with_reducible refine Kd.C_drewN ?_ _) | (with_reducible refine Kd.C_drew ?_))); (case side2 => exact (Kd.R_reads' HO158.out).2.1); (case side3 => repeat (first | exact (Kd.C_below HR2.out HB.out) | (with_reducible refine Kd.C_alloc ?_ _) | (with_reducible refine Kd.C_drewN ?_ _) | (with_reducible refine Kd.C_drew ?_))); (case side4 => exact HC2.out); rintro e w31 ⟨rfl, hb⟩; refine ⟨_, rfl, ?_⟩; have n0_ := Aside0.mk (Kd.R_below (by (with_reducible repeat (first | apply Kd.R_alloc | apply Kd.R_drewN | apply Kd.R_drew)); exact HO151.out) hb); have n1_ := Aside0.mk (Kd.R_below (by (with_reducible repeat (first | apply Kd.R_alloc | apply Kd.R_drewN | apply Kd.R_drew)); exact HO155.out) hb); have n2_ := Aside0.mk (Kd.R_below (by (with_reducible repeat (first | apply Kd.R_alloc | apply Kd.R_drewN | apply Kd.R_drew)); exact HO158.out) hb); have n3_ := Aside0.mk (below_step (by repeat (first | (with_reducible first | exact HB.out | apply below_alloc | apply pw_below_drewN | apply below_drew1) | exact HB.out)) hb); clear HO151; clear HO155; clear HO158; clear HB; have HO151 := n0_; have HO155 := n1_; have HO158 := n2_; have HB := n3_; clear n0_ n1_ n2_ n3_; (try clear hb); (try clear hb2); (try clear hk); (try clear hi); obtain ⟨Ao32, co32, eo32⟩ := Kd.R_slice HO155.out; subst eo32) | (go_at_call 15; (with_reducible refine (styluslaw19_same.calls k _ _ t152 _ _ l2 false _ ?side1 ?side2 ?side3 ?side4 A9.out).mono ?_); (case side1 => repeat (first | exact (Kd.R_reads' HO155.out).2.2 | (with_reducible refine Kd.C_alloc ?_ _) | (with_reducible refine Kd.C_drewN ?_ _) | (with_reducible refine Kd.C_drew ?_))); (case side2 => exact (Kd.R_reads' HO155.out).2.1); (case side3 => repeat (first | exact (Kd.C_below HR2.out HB.out) | (with_reducible refine Kd.C_alloc ?_ _) | (with_reducible refine Kd.C_drewN ?_ _) | (with_reducible refine Kd.C_drew ?_))); (case side4 => exact HC2.out); rintro e w' ⟨rfl, ⟨nd, rfl⟩⟩))
      go_ret
      exact ⟨by first | rfl | (simp [errW_none, errW_some] <;> rfl) | (simp [*, errW_none, errW_some] <;> rfl), by repeat (first | (with_reducible first | exact HB.out | apply below_alloc | apply pw_below_drewN | apply below_drew1) | exact HB.out)⟩
  · rw [if_neg c8] at H
    have c8b0 : (t153 == 0) = false := beq_eq_false_iff_ne.mpr c8
    have c8b1 : (t153 != 0) = true := bne_iff_ne.mpr c8
    obtain rfl := Option.some.inj H
    go_enter Try.func42, Try.ntmps42
    go_wp2_with (first | ((with_reducible refine gate_callee (f := 41) rfl ?_); refine goesL_ (some 13) rfl rfl Try.func41 (by kernel_rfl) rfl #[.string a0] rfl (by (try simp only [List.map_toArray, List.map_cons, List.map_nil]); first | done | rfl | (simp only [List.length_drop, List.length_take]; rfl)) ?_; (with_reducible refine (styluslaw19_of.calls k a0 t149 _ A4.out).mono ?_); rintro e w33 ⟨v150, rfl, ho0, hb⟩; refine ⟨_, rfl, ?_⟩; have n0_ := Aside0.mk (Kd.R_lower ho0 (below_size (by repeat (first | (with_reducible first | exact HB.out | apply below_alloc | apply pw_below_drewN | apply below_drew1) | exact HB.out)))); have n1_ := Aside0.mk (below_step (by repeat (first | (with_reducible first | exact HB.out | apply below_alloc | apply pw_below_drewN | apply below_drew1) | exact HB.out)) hb); clear HB; have HO151 := n0_; have HB := n1_; clear n0_ n1_; (try clear hb); (try clear hb2); (try clear hk); (try clear hi); (try clear ho0); obtain ⟨Ao34, co34, eo34⟩ := Kd.R_slice HO151.out; subst eo34) | ((with_reducible refine gate_callee (f := 13) rfl ?_); refine goesL_ (some 14) rfl rfl Try.func13 (by kernel_rfl) rfl #[.slice Ao34 t149.length co34, .int .i64 30] rfl (by (try simp only [List.map_toArray, List.map_cons, List.map_nil]); first | done | rfl | (simp only [List.length_drop, List.length_take]; rfl)) ?_; (with_reducible refine (best_Of.calls _ _ t149 30 t152 t153 _ ?side1 ?side2 A5.out).mono ?_); (case side1 => repeat (first | exact (Kd.R_reads' HO151.out).2.2 | (with_reducible refine Kd.C_alloc ?_ _) | (with_reducible refine Kd.C_drewN ?_ _) | (with_reducible refine Kd.C_drew ?_))); (case side2 => exact (Kd.R_reads' HO151.out).2.1); rintro e w35 ⟨v154, rfl, ho0, hb⟩; refine ⟨_, rfl, ?_⟩; have n0_ := Aside0.mk (Kd.R_below (by (with_reducible repeat (first | apply Kd.R_alloc | apply Kd.R_drewN | apply Kd.R_drew)); exact HO151.out) hb); have n1_ := Aside0.mk (Kd.R_lower ho0 (below_size (by repeat (first | (with_reducible first | exact HB.out | apply below_alloc | apply pw_below_drewN | apply below_drew1) | exact HB.out)))); have n2_ := Aside0.mk (below_step (by repeat (first | (with_reducible first | exact HB.out | apply below_alloc | apply pw_below_drewN | apply below_drew1) | exact HB.out)) hb); clear HO151; clear HB; have HO151 := n0_; have HO155 := n1_; have HB := n2_; clear n0_ n1_ n2_; (try clear hb); (try clear hb2); (try clear hk); (try clear hi); (try clear ho0)) | ((with_reducible refine gate_callee (f := 41) rfl ?_); refine goesL_ (some 19) rfl rfl Try.func41 (by kernel_rfl) rfl #[.string a0] rfl (by (try simp only [List.map_toArray, List.map_cons, List.map_nil]); first | done | rfl | (simp only [List.length_drop, List.length_take]; rfl)) ?_; (with_reducible refine (styluslaw19_of.calls k a0 t156 _ A6.out).mono ?_); rintro e w36 ⟨v157, rfl, ho0, hb⟩; refine ⟨_, rfl, ?_⟩; have n0_ := Aside0.mk (Kd.R_elder' (by (with_reducible repeat (first | apply Kd.R_alloc | apply Kd.R_drewN | apply Kd.R_drew)); exact HO151.out) (Kd.R_base ho0) hb); have n1_ := Aside0.mk (Kd.R_below (by (with_reducible repeat (first | apply Kd.R_alloc | apply Kd.R_drewN | apply Kd.R_drew)); exact HO155.out) hb); have n2_ := Aside0.mk (Kd.R_lower (Kd.R_new' ho0 (Kd.R_lt (by (with_reducible repeat (first | apply Kd.R_alloc | apply Kd.R_drewN | apply Kd.R_drew)); exact HO151.out))) (below_size (by repeat (first | (with_reducible first | exact HB.out | apply below_alloc | apply pw_below_drewN | apply below_drew1) | exact HB.out)))); have n3_ := Aside0.mk (below_step (by repeat (first | (with_reducible first | exact HB.out | apply below_alloc | apply pw_below_drewN | apply below_drew1) | exact HB.out)) hb); clear HO151; clear HO155; clear HB; have HO151 := n0_; have HO155 := n1_; have HO158 := n2_; have HB := n3_; clear n0_ n1_ n2_ n3_; (try clear hb); (try clear hb2); (try clear hk); (try clear hi); (try clear ho0); obtain ⟨Ao37, co37, eo37⟩ := Kd.R_slice HO158.out; subst eo37) | ((with_reducible refine gate_callee (f := 21) rfl ?_); refine goesL_ (some 21) rfl rfl Try.func21 (by kernel_rfl) rfl #[.slice Ao37 t156.length co37, .int .i64 30, .slice A2 l2.length c2] rfl (by (try simp only [List.map_toArray, List.map_cons, List.map_nil]); first | done | rfl | (simp only [List.length_drop, List.length_take]; rfl)) ?_; (with_reducible refine (best_Demerits.calls _ _ t156 30 _ _ l2 t159 t160 _ ?side1 ?side2 ?side3 ?side4 A7.out).mono ?_); (case side1 => repeat (first | exact (Kd.R_reads' HO158.out).2.2 | (with_reducible refine Kd.C_alloc ?_ _) | (with_reducible refine Kd.C_drewN ?_ _) | (with_reducible refine Kd.C_drew ?_))); (case side2 => exact (Kd.R_reads' HO158.out).2.1); (case side3 => repeat (first | exact (Kd.C_below HR2.out HB.out) | (with_reducible refine Kd.C_alloc ?_ _) | (with_reducible refine Kd.C_drewN ?_ _) | (with_reducible refine Kd.C_drew ?_))); (case side4 => exact HC2.out); rintro e w38 ⟨rfl, hb⟩; refine ⟨_, rfl, ?_⟩; have n0_ := Aside0.mk (Kd.R_below (by (with_reducible repeat (first | apply Kd.R_alloc | apply Kd.R_drewN | apply Kd.R_drew)); exact HO151.out) hb); have n1_ := Aside0.mk (Kd.R_below (by (with_reducible repeat (first | apply Kd.R_alloc | apply Kd.R_drewN | apply Kd.R_drew)); exact HO155.out) hb); have n2_ := Aside0.mk (Kd.R_below (by (with_reducible repeat (first | apply Kd.R_alloc | apply Kd.R_drewN | apply Kd.R_drew)); exact HO158.out) hb); have n3_ := Aside0.mk (below_step (by repeat (first | (with_reducible first | exact HB.out | apply below_alloc | apply pw_below_drewN | apply below_drew1) | exact HB.out)) hb); clear HO151; clear HO155; clear HO158; clear HB; have HO151 := n0_; have HO155 := n1_; have HO158 := n2_; have HB := n3_; clear n0_ n1_ n2_ n3_; (try clear hb); (try clear hb2); (try clear hk); (try clear hi)))
    go_ret
    exact ⟨by first | rfl | (simp [errW_none, errW_some] <;> rfl) | (simp [*, errW_none, errW_some] <;> rfl), by repeat (first | (with_reducible first | exact HB.out | apply below_alloc | apply pw_below_drewN | apply below_drew1) | exact HB.out)⟩

end Go.Proofs.Ytbddfnmhhmkfkaa.Pr
/- Walks of the Go functions of this seat, and the Lean functions that they come to: written by a program (mkprint.py over the kit's print). -/
namespace Go.Proofs.Ytbddfnmhhmkfkaa.Pr
open Go.RowKit Go.Proofs.YtbddfnmhhmkfkaaW.PrintWords Go.Proofs.YtbddfnmhhmkfkaaW.PrintLast Go.Proofs.YtbddfnmhhmkfkaaW.PrintMore
attribute [local go_sem] max2_int min2_int max_two min_two max_three min_three max_four min_four   -- for this text's walks alone
set_option linter.unusedVariables false
set_option linter.unusedSimpArgs false

/-! ### styluslaw19_awake: function 12 -/
def styluslaw19_awake.f (k : Nat)  : Option (Bool) := (styluslaw19_of.f k (⟨#[98, 103, 98]⟩ : ByteArray)).bind fun t162 => ((best_Ratio.f t162 30 (-1) 3).bind fun bt165 => (if bt165.1 = 30 then (if bt165.2.1 = 0 then (if bt165.2.2 = 0 then ((styluslaw19_broken.f k (⟨#[98, 103, 98]⟩ : ByteArray) 100 (([3] : List Int))).bind fun t171 => (if t171 = true then ((styluslaw19_broken.f k (⟨#[98, 103, 98, 103, 98]⟩ : ByteArray) 200 (([3, 5] : List Int))).bind fun t175 => (if t175 = true then ((styluslaw19_broken.f k (⟨#[98, 98, 98, 98]⟩ : ByteArray) 1000100200100 (([4] : List Int))).bind fun t179 => (if t179 = true then ((styluslaw19_broken.f k (⟨#[98, 98, 104, 98, 98]⟩ : ByteArray) 100202700 (([2, 5] : List Int))).bind fun t183 => (if t183 = true then ((styluslaw19_broken.f k (⟨#[]⟩ : ByteArray) 100 (([0] : List Int))).bind fun t187 => (some t187)) else (some false))) else (some false))) else (some false))) else (some false))) else (some false)) else (some false)) else (some false)))
theorem styluslaw19_awake.mono : ∀ k, LeO (styluslaw19_awake.f k ) (styluslaw19_awake.f (k + 1) ) := by
  intro  k
  unfold styluslaw19_awake.f
  repeat' first
      | (with_reducible exact styluslaw19_broken.mono _ _ _ _)
      | (with_reducible exact styluslaw19_of.mono _ _)
      | (with_reducible exact LeO.refl _)
      | (with_reducible exact LeO.none _)
      | (with_reducible refine LeO.ite ?_ ?_)
      | (with_reducible refine LeO.bind ?_ (fun _ => ?_))
      | exact styluslaw19_broken.mono _ _ _ _
      | exact styluslaw19_of.mono _ _
      | exact LeO.none _
      | refine LeO.ite ?_ ?_
      | refine LeO.bind ?_ (fun _ => ?_)
set_option maxHeartbeats 8000000 in
set_option maxRecDepth 100000 in
theorem styluslaw19_awake.calls (k : Nat)  (r : Bool) (w : World) (h : styluslaw19_awake.f k  = some r) :
    Calls Try.prog 12 #[] w fun e w' => e = .returned (.bool r) ∧ Below w.heap.size w w' := by
  have HB := Aside0.mk (Below.refl w.heap.size w)
  have H : ((styluslaw19_of.f k (⟨#[98, 103, 98]⟩ : ByteArray)).bind fun t162 => ((best_Ratio.f t162 30 (-1) 3).bind fun bt165 => (if bt165.1 = 30 then (if bt165.2.1 = 0 then (if bt165.2.2 = 0 then ((styluslaw19_broken.f k (⟨#[98, 103, 98]⟩ : ByteArray) 100 (([3] : List Int))).bind fun t171 => (if t171 = true then ((styluslaw19_broken.f k (⟨#[98, 103, 98, 103, 98]⟩ : ByteArray) 200 (([3, 5] : List Int))).bind fun t175 => (if t175 = true then ((styluslaw19_broken.f k (⟨#[98, 98, 98, 98]⟩ : ByteArray) 1000100200100 (([4] : List Int))).bind fun t179 => (if t179 = true then ((styluslaw19_broken.f k (⟨#[98, 98, 104, 98, 98]⟩ : ByteArray) 100202700 (([2, 5] : List Int))).bind fun t183 => (if t183 = true then ((styluslaw19_broken.f k (⟨#[]⟩ : ByteArray) 100 (([0] : List Int))).bind fun t187 => (some t187)) else (some false))) else (some false))) else (some false))) else (some false))) else (some false)) else (some false)) else (some false)))) = some r := h
  clear h
  replace H := Option.bind_eq_some_iff.mp H
  obtain ⟨t162, A10, H⟩ := H
  replace H : ((best_Ratio.f t162 30 (-1) 3).bind fun bt165 => (if bt165.1 = 30 then (if bt165.2.1 = 0 then (if bt165.2.2 = 0 then ((styluslaw19_broken.f k (⟨#[98, 103, 98]⟩ : ByteArray) 100 (([3] : List Int))).bind fun t171 => (if t171 = true then ((styluslaw19_broken.f k (⟨#[98, 103, 98, 103, 98]⟩ : ByteArray) 200 (([3, 5] : List Int))).bind fun t175 => (if t175 = true then ((styluslaw19_broken.f k (⟨#[98, 98, 98, 98]⟩ : ByteArray) 1000100200100 (([4] : List Int))).bind fun t179 => (if t179 = true then ((styluslaw19_broken.f k (⟨#[98, 98, 104, 98, 98]⟩ : ByteArray) 100202700 (([2, 5] : List Int))).bind fun t183 => (if t183 = true then ((styluslaw19_broken.f k (⟨#[]⟩ : ByteArray) 100 (([0] : List Int))).bind fun t187 => (some t187)) else (some false))) else (some false))) else (some false))) else (some false))) else (some false)) else (some false)) else (some false))) = some r := H
  have A1 := Aside0.mk A10
  clear A10
  replace H := Option.bind_eq_some_iff.mp H
  obtain ⟨⟨t165, t166, t167⟩, A20, H⟩ := H
  replace H : (if t165 = 30 then (if t166 = 0 then (if t167 = 0 then ((styluslaw19_broken.f k (⟨#[98, 103, 98]⟩ : ByteArray) 100 (([3] : List Int))).bind fun t171 => (if t171 = true then ((styluslaw19_broken.f k (⟨#[98, 103, 98, 103, 98]⟩ : ByteArray) 200 (([3, 5] : List Int))).bind fun t175 => (if t175 = true then ((styluslaw19_broken.f k (⟨#[98, 98, 98, 98]⟩ : ByteArray) 1000100200100 (([4] : List Int))).bind fun t179 => (if t179 = true then ((styluslaw19_broken.f k (⟨#[98, 98, 104, 98, 98]⟩ : ByteArray) 100202700 (([2, 5] : List Int))).bind fun t183 => (if t183 = true then ((styluslaw19_broken.f k (⟨#[]⟩ : ByteArray) 100 (([0] : List Int))).bind fun t187 => (some t187)) else (some false))) else (some false))) else (some false))) else (some false))) else (some false)) else (some false)) else (some false)) = some r := H
  have A2 := Aside0.mk A20
  clear A20
  by_cases c3 : t165 = 30
  · rw [if_pos c3] at H
    have c3b0 : (t165 == 30) = true := beq_iff_eq.mpr c3
    have c3b1 : (t165 != 30) = false := bne_eq_false_iff_eq.mpr c3
    clear c3
    by_cases c4 : t166 = 0
    · rw [if_pos c4] at H
      have c4b0 : (t166 == 0) = true := beq_iff_eq.mpr c4
      have c4b1 : (t166 != 0) = false := bne_eq_false_iff_eq.mpr c4
      clear c4
      by_cases c5 : t167 = 0
      · rw [if_pos c5] at H
        have c5b0 : (t167 == 0) = true := beq_iff_eq.mpr c5
        have c5b1 : (t167 != 0) = false := bne_eq_false_iff_eq.mpr c5
        clear c5
        obtain ⟨y168, hy168⟩ : ∃ y_ : List Int, y_ = (([3] : List Int)) := ⟨_, rfl⟩
        replace H : ((styluslaw19_broken.f k (⟨#[98, 103, 98]⟩ : ByteArray) 100 y168).bind fun t171 => (if t171 = true then ((styluslaw19_broken.f k (⟨#[98, 103, 98, 103, 98]⟩ : ByteArray) 200 (([3, 5] : List Int))).bind fun t175 => (if t175 = true then ((styluslaw19_broken.f k (⟨#[98, 98, 98, 98]⟩ : ByteArray) 1000100200100 (([4] : List Int))).bind fun t179 => (if t179 = true then ((styluslaw19_broken.f k (⟨#[98, 98, 104, 98, 98]⟩ : ByteArray) 100202700 (([2, 5] : List Int))).bind fun t183 => (if t183 = true then ((styluslaw19_broken.f k (⟨#[]⟩ : ByteArray) 100 (([0] : List Int))).bind fun t187 => (some t187)) else (some false))) else (some false))) else (some false))) else (some false))) = some r := by first | (rw [hy168]; with_reducible exact H) | (have H2_ := (Option.bind_some _ _).symm.trans H; rw [hy168]; with_reducible exact H2_) | (have H2_ := (Option.bind_some _ _).symm.trans H; with_reducible exact H2_) | with_reducible exact H | (rw [hy168]; exact H) | exact H
        have Ny168 := Aside0.mk hy168
        clear hy168
        replace H := Option.bind_eq_some_iff.mp H
        obtain ⟨t171, A60, H⟩ := H
        replace H : (if t171 = true then ((styluslaw19_broken.f k (⟨#[98, 103, 98, 103, 98]⟩ : ByteArray) 200 (([3, 5] : List Int))).bind fun t175 => (if t175 = true then ((styluslaw19_broken.f k (⟨#[98, 98, 98, 98]⟩ : ByteArray) 1000100200100 (([4] : List Int))).bind fun t179 => (if t179 = true then ((styluslaw19_broken.f k (⟨#[98, 98, 104, 98, 98]⟩ : ByteArray) 100202700 (([2, 5] : List Int))).bind fun t183 => (if t183 = true then ((styluslaw19_broken.f k (⟨#[]⟩ : ByteArray) 100 (([0] : List Int))).bind fun t187 => (some t187)) else (some false))) else (some false))) else (some false))) else (some false)) = some r := H
        have A6 := Aside0.mk A60
        clear A60
        by_cases c7 : t171 = true
        · subst c7
          have H1 : ((styluslaw19_broken.f k (⟨#[98, 103, 98, 103, 98]⟩ : ByteArray) 200 (([3, 5] : List Int))).bind fun t175 => (if t175 = true then ((styluslaw19_broken.f k (⟨#[98, 98, 98, 98]⟩ : ByteArray) 1000100200100 (([4] : List Int))).bind fun t179 => (if t179 = true then ((styluslaw19_broken.f k (⟨#[98, 98, 104, 98, 98]⟩ : ByteArray) 100202700 (([2, 5] : List Int))).bind fun t183 => (if t183 = true then ((styluslaw19_broken.f k (⟨#[]⟩ : ByteArray) 100 (([0] : List Int))).bind fun t187 => (some t187)) else (some false))) else (some false))) else (some false))) = some r := by rw [if_pos rfl] at H; exact H
          clear H
          have H := H1
          clear H1
          obtain ⟨y172, hy172⟩ : ∃ y_ : List Int, y_ = (([3, 5] : List Int)) := ⟨_, rfl⟩
          replace H : ((styluslaw19_broken.f k (⟨#[98, 103, 98, 103, 98]⟩ : ByteArray) 200 y172).bind fun t175 => (if t175 = true then ((styluslaw19_broken.f k (⟨#[98, 98, 98, 98]⟩ : ByteArray) 1000100200100 (([4] : List Int))).bind fun t179 => (if t179 = true then ((styluslaw19_broken.f k (⟨#[98, 98, 104, 98, 98]⟩ : ByteArray) 100202700 (([2, 5] : List Int))).bind fun t183 => (if t183 = true then ((styluslaw19_broken.f k (⟨#[]⟩ : ByteArray) 100 (([0] : List Int))).bind fun t187 => (some t187)) else (some false))) else (some false))) else (some false))) = some r := by first | (rw [hy172]; with_reducible exact H) | (have H2_ := (Option.bind_some _ _).symm.trans H; rw [hy172]; with_reducible exact H2_) | (have H2_ := (Option.bind_some _ _).symm.trans H; with_reducible exact H2_) | with_reducible exact H | (rw [hy172]; exact H) | exact H
          have Ny172 := Aside0.mk hy172
          clear hy172
          replace H := Option.bind_eq_some_iff.mp H
          obtain ⟨t175, A80, H⟩ := H
          replace H : (if t175 = true then ((styluslaw19_broken.f k (⟨#[98, 98, 98, 98]⟩ : ByteArray) 1000100200100 (([4] : List Int))).bind fun t179 => (if t179 = true then ((styluslaw19_broken.f k (⟨#[98, 98, 104, 98, 98]⟩ : ByteArray) 100202700 (([2, 5] : List Int))).bind fun t183 => (if t183 = true then ((styluslaw19_broken.f k (⟨#[]⟩ : ByteArray) 100 (([0] : List Int))).bind fun t187 => (some t187)) else (some false))) else (some false))) else (some false)) = some r := H
          have A8 := Aside0.mk A80
          clear A80
          by_cases c9 : t175 = true
          · subst c9
            have H1 : ((styluslaw19_broken.f k (⟨#[98, 98, 98, 98]⟩ : ByteArray) 1000100200100 (([4] : List Int))).bind fun t179 => (if t179 = true then ((styluslaw19_broken.f k (⟨#[98, 98, 104, 98, 98]⟩ : ByteArray) 100202700 (([2, 5] : List Int))).bind fun t183 => (if t183 = true then ((styluslaw19_broken.f k (⟨#[]⟩ : ByteArray) 100 (([0] : List Int))).bind fun t187 => (some t187)) else (some false))) else (some false))) = some r := by rw [if_pos rfl] at H; exact H
            clear H
            have H := H1
            clear H1
            obtain ⟨y176, hy176⟩ : ∃ y_ : List Int, y_ = (([4] : List Int)) := ⟨_, rfl⟩
            replace H : ((styluslaw19_broken.f k (⟨#[98, 98, 98, 98]⟩ : ByteArray) 1000100200100 y176).bind fun t179 => (if t179 = true then ((styluslaw19_broken.f k (⟨#[98, 98, 104, 98, 98]⟩ : ByteArray) 100202700 (([2, 5] : List Int))).bind fun t183 => (if t183 = true then ((styluslaw19_broken.f k (⟨#[]⟩ : ByteArray) 100 (([0] : List Int))).bind fun t187 => (some t187)) else (some false))) else (some false))) = some r := by first | (rw [hy176]; with_reducible exact H) | (have H2_ := (Option.bind_some _ _).symm.trans H; rw [hy176]; with_reducible exact H2_) | (have H2_ := (Option.bind_some _ _).symm.trans H; with_reducible exact H2_) | with_reducible exact H | (rw [hy176]; exact H) | exact H
            have Ny176 := Aside0.mk hy176
            clear hy176
            replace H := Option.bind_eq_some_iff.mp H
            obtain ⟨t179, A100, H⟩ := H
            replace H : (if t179 = true then ((styluslaw19_broken.f k (⟨#[98, 98, 104, 98, 98]⟩ : ByteArray) 100202700 (([2, 5] : List Int))).bind fun t183 => (if t183 = true then ((styluslaw19_broken.f k (⟨#[]⟩ : ByteArray) 100 (([0] : List Int))).bind fun t187 => (some t187)) else (some false))) else (some false)) = some r := H
            have A10 := Aside0.mk A100
            clear A100
            by_cases c11 : t179 = true
            · subst c11
              have H1 : ((styluslaw19_broken.f k (⟨#[98, 98, 104, 98, 98]⟩ : ByteArray) 100202700 (([2, 5] : List Int))).bind fun t183 => (if t183 = true then ((styluslaw19_broken.f k (⟨#[]⟩ : ByteArray) 100 (([0] : List Int))).bind fun t187 => (some t187)) else (some false))) = some r := by rw [if_pos rfl] at H; exact H
              clear H
              have H := H1
              clear H1
              obtain ⟨y180, hy180⟩ : ∃ y_ : List Int, y_ = (([2, 5] : List Int)) := ⟨_, rfl⟩
              replace H : ((styluslaw19_broken.f k (⟨#[98, 98, 104, 98, 98]⟩ : ByteArray) 100202700 y180).bind fun t183 => (if t183 = true then ((styluslaw19_broken.f k (⟨#[]⟩ : ByteArray) 100 (([0] : List Int))).bind fun t187 => (some t187)) else (some false))) = some r := by first | (rw [hy180]; with_reducible exact H) | (have H2_ := (Option.bind_some _ _).symm.trans H; rw [hy180]; with_reducible exact H2_) | (have H2_ := (Option.bind_some _ _).symm.trans H; with_reducible exact H2_) | with_reducible exact H | (rw [hy180]; exact H) | exact H
              have Ny180 := Aside0.mk hy180
              clear hy180
              replace H := Option.bind_eq_some_iff.mp H
              obtain ⟨t183, A120, H⟩ := H
              replace H : (if t183 = true then ((styluslaw19_broken.f k (⟨#[]⟩ : ByteArray) 100 (([0] : List Int))).bind fun t187 => (some t187)) else (some false)) = some r := H
              have A12 := Aside0.mk A120
              clear A120
              by_cases c13 : t183 = true
              · subst c13
                have H1 : ((styluslaw19_broken.f k (⟨#[]⟩ : ByteArray) 100 (([0] : List Int))).bind fun t187 => (some t187)) = some r := by rw [if_pos rfl] at H; exact H
                clear H
                have H := H1
                clear H1
                obtain ⟨y184, hy184⟩ : ∃ y_ : List Int, y_ = (([0] : List Int)) := ⟨_, rfl⟩
                replace H : ((styluslaw19_broken.f k (⟨#[]⟩ : ByteArray) 100 y184).bind fun t187 => (some t187)) = some r := by first | (rw [hy184]; with_reducible exact H) | (have H2_ := (Option.bind_some _ _).symm.trans H; rw [hy184]; with_reducible exact H2_) | (have H2_ := (Option.bind_some _ _).symm.trans H; with_reducible exact H2_) | with_reducible exact H | (rw [hy184]; exact H) | exact H
                have Ny184 := Aside0.mk hy184
                clear hy184
                replace H := Option.bind_eq_some_iff.mp H
                obtain ⟨t187, A140, H⟩ := H
                replace H : (some t187) = some r := H
                have A14 := Aside0.mk A140
                clear A140
                obtain rfl := Option.some.inj H
                go_enter Try.func12, Try.ntmps12
                go_wp2_with (first | ((with_reducible refine gate_callee (f := 41) rfl ?_); refine goesL_ (some 5) rfl rfl Try.func41 (by kernel_rfl) rfl #[.string (⟨#[98, 103, 98]⟩ : ByteArray)] rfl (by (try simp only [List.map_toArray, List.map_cons, List.map_nil]); first | done | rfl | (simp only [List.length_drop, List.length_take]; rfl)) ?_; (with_reducible refine (styluslaw19_of.calls k (⟨#[98, 103, 98]⟩ : ByteArray) t162 _ A1.out).mono ?_); rintro e w15 ⟨v163, rfl, ho0, hb⟩; refine ⟨_, rfl, ?_⟩; have n0_ := Aside0.mk (Kd.R_lower ho0 (below_size (by repeat (first | (with_reducible first | exact HB.out | apply below_alloc | apply pw_below_drewN | apply below_drew1) | exact HB.out)))); have n1_ := Aside0.mk (below_step (by repeat (first | (with_reducible first | exact HB.out | apply below_alloc | apply pw_below_drewN | apply below_drew1) | exact HB.out)) hb); clear HB; have HO164 := n0_; have HB := n1_; clear n0_ n1_; (try clear hb); (try clear hb2); (try clear hk); (try clear hi); (try clear ho0); obtain ⟨Ao16, co16, eo16⟩ := Kd.R_slice HO164.out; subst eo16) | ((with_reducible refine gate_callee (f := 19) rfl ?_); refine goesL_ (some 6) rfl rfl Try.func19 (by kernel_rfl) rfl #[.slice Ao16 t162.length co16, .int .i64 30, .int .i64 (-1), .int .i64 3] rfl (by (try simp only [List.map_toArray, List.map_cons, List.map_nil]); first | done | rfl | (simp only [List.length_drop, List.length_take]; rfl)) ?_; (with_reducible refine (best_Ratio.calls _ _ t162 30 (-1) 3 t165 t166 t167 _ ?side1 ?side2 A2.out).mono ?_); (case side1 => repeat (first | exact (Kd.R_reads' HO164.out).2.2 | (with_reducible refine Kd.C_alloc ?_ _) | (with_reducible refine Kd.C_drewN ?_ _) | (with_reducible refine Kd.C_drew ?_))); (case side2 => exact (Kd.R_reads' HO164.out).2.1); rintro e w17 ⟨rfl, hb⟩; refine ⟨_, rfl, ?_⟩; have n0_ := Aside0.mk (Kd.R_below (by (with_reducible repeat (first | apply Kd.R_alloc | apply Kd.R_drewN | apply Kd.R_drew)); exact HO164.out) hb); have n1_ := Aside0.mk (below_step (by repeat (first | (with_reducible first | exact HB.out | apply below_alloc | apply pw_below_drewN | apply below_drew1) | exact HB.out)) hb); clear HO164; clear HB; have HO164 := n0_; have HB := n1_; clear n0_ n1_; (try clear hb); (try clear hb2); (try clear hk); (try clear hi)) | ((with_reducible refine gate_dst (N := 21) rfl ?_); (try (refine gate_guard (by rfl) ?_; dsimp only)); refine Kd.R_lit (Kd.int .i64) _ 3 ?hg (N := 21) ?hd (xs := ([3] : List Int)) (inner := [.int .i64 3]) (ok := fun _ => True) (okp := fun _ => True) ?hr ?hp (fun _ hk => hk) trivial (Below.refl _ _) (Nat.le_refl _) (by simp) ?_; (case hd => rfl); (case hg => rfl); (case hr => first | (go_simp; done) | (go_simp; rfl)); (case hp => exact (Reps.one (show Kd.M (Kd.int .i64) _ _ _ 3 [.int .i64 3] from rfl) (Reps.none _ _))); intro v169 w18 ho19 hb hg_ hnew_; clear hg_ hnew_; (first | rw [← Ny168.out] at ho19 | (simp only [Int.reduceToNat] at ho19; rw [← Ny168.out] at ho19)); have n0_ := Aside0.mk (Kd.R_below (by (with_reducible repeat (first | apply Kd.R_alloc | apply Kd.R_drewN | apply Kd.R_drew)); exact HO164.out) hb); have n1_ := Aside0.mk (Kd.R_lower ho19 (below_size (by repeat (first | (with_reducible first | exact HB.out | apply below_alloc | apply pw_below_drewN | apply below_drew1) | exact HB.out)))); have n2_ := Aside0.mk (below_step (by repeat (first | (with_reducible first | exact HB.out | apply below_alloc | apply pw_below_drewN | apply below_drew1) | exact HB.out)) hb); clear HO164; clear HB; have HO164 := n0_; have HO170 := n1_; have HB := n2_; clear n0_ n1_ n2_; clear hb ho19; obtain ⟨Ao20, co20, eo20⟩ := Kd.R_slice HO170.out; subst eo20) | (go_at_call 42; (with_reducible refine (styluslaw19_broken.calls k (⟨#[98, 103, 98]⟩ : ByteArray) 100 _ _ y168 true _ ?side1 ?side2 A6.out).mono ?_); (case side1 => repeat (first | exact (Kd.R_reads' HO170.out).2.2 | (with_reducible refine Kd.C_alloc ?_ _) | (with_reducible refine Kd.C_drewN ?_ _) | (with_reducible refine Kd.C_drew ?_))); (case side2 => exact (Kd.R_reads' HO170.out).2.1); rintro e w21 ⟨rfl, hb⟩; have n0_ := Aside0.mk (Kd.R_below (by (with_reducible repeat (first | apply Kd.R_alloc | apply Kd.R_drewN | apply Kd.R_drew)); exact HO164.out) hb); have n1_ := Aside0.mk (Kd.R_below (by (with_reducible repeat (first | apply Kd.R_alloc | apply Kd.R_drewN | apply Kd.R_drew)); exact HO170.out) hb); have n2_ := Aside0.mk (below_step (by repeat (first | (with_reducible first | exact HB.out | apply below_alloc | apply pw_below_drewN | apply below_drew1) | exact HB.out)) hb); clear HO164; clear HO170; clear HB; have HO164 := n0_; have HO170 := n1_; have HB := n2_; clear n0_ n1_ n2_; (try clear hb); (try clear hb2); (try clear hk); (try clear hi)) | ((with_reducible refine gate_dst (N := 25) rfl ?_); (try (refine gate_guard (by rfl) ?_; dsimp only)); refine Kd.R_lit (Kd.int .i64) _ 3 ?hg (N := 25) ?hd (xs := ([3, 5] : List Int)) (inner := [.int .i64 3, .int .i64 5]) (ok := fun _ => True) (okp := fun _ => True) ?hr ?hp (fun _ hk => hk) trivial (Below.refl _ _) (Nat.le_refl _) (by simp) ?_; (case hd => rfl); (case hg => rfl); (case hr => first | (go_simp; done) | (go_simp; rfl)); (case hp => exact (Reps.one (show Kd.M (Kd.int .i64) _ _ _ 3 [.int .i64 3] from rfl) (Reps.one (show Kd.M (Kd.int .i64) _ _ _ 5 [.int .i64 5] from rfl) (Reps.none _ _)))); intro v173 w22 ho23 hb hg_ hnew_; clear hg_ hnew_; (first | rw [← Ny172.out] at ho23 | (simp only [Int.reduceToNat] at ho23; rw [← Ny172.out] at ho23)); have n0_ := Aside0.mk (Kd.R_below (by (with_reducible repeat (first | apply Kd.R_alloc | apply Kd.R_drewN | apply Kd.R_drew)); exact HO164.out) hb); have n1_ := Aside0.mk (Kd.R_elder' (by (with_reducible repeat (first | apply Kd.R_alloc | apply Kd.R_drewN | apply Kd.R_drew)); exact HO170.out) (Kd.R_base ho23) hb); have n2_ := Aside0.mk (Kd.R_lower (Kd.R_new' ho23 (Kd.R_lt (by (with_reducible repeat (first | apply Kd.R_alloc | apply Kd.R_drewN | apply Kd.R_drew)); exact HO170.out))) (below_size (by repeat (first | (with_reducible first | exact HB.out | apply below_alloc | apply pw_below_drewN | apply below_drew1) | exact HB.out)))); have n3_ := Aside0.mk (below_step (by repeat (first | (with_reducible first | exact HB.out | apply below_alloc | apply pw_below_drewN | apply below_drew1) | exact HB.out)) hb); clear HO164; clear HO170; clear HB; have HO164 := n0_; have HO170 := n1_; have HO174 := n2_; have HB := n3_; clear n0_ n1_ n2_ n3_; clear hb ho23; obtain ⟨Ao24, co24, eo24⟩ := Kd.R_slice HO174.out; subst eo24) | (go_at_call 42; (with_reducible refine (styluslaw19_broken.calls k (⟨#[98, 103, 98, 103, 98]⟩ : ByteArray) 200 _ _ y172 true _ ?side1 ?side2 A8.out).mono ?_); (case side1 => repeat (first | exact (Kd.R_reads' HO174.out).2.2 | (with_reducible refine Kd.C_alloc ?_ _) | (with_reducible refine Kd.C_drewN ?_ _) | (with_reducible refine Kd.C_drew ?_))); (case side2 => exact (Kd.R_reads' HO174.out).2.1); rintro e w25 ⟨rfl, hb⟩; have n0_ := Aside0.mk (Kd.R_below (by (with_reducible repeat (first | apply Kd.R_alloc | apply Kd.R_drewN | apply Kd.R_drew)); exact HO164.out) hb); have n1_ := Aside0.mk (Kd.R_below (by (with_reducible repeat (first | apply Kd.R_alloc | apply Kd.R_drewN | apply Kd.R_drew)); exact HO170.out) hb); have n2_ := Aside0.mk (Kd.R_below (by (with_reducible repeat (first | apply Kd.R_alloc | apply Kd.R_drewN | apply Kd.R_drew)); exact HO174.out) hb); have n3_ := Aside0.mk (below_step (by repeat (first | (with_reducible first | exact HB.out | apply below_alloc | apply pw_below_drewN | apply below_drew1) | exact HB.out)) hb); clear HO164; clear HO170; clear HO174; clear HB; have HO164 := n0_; have HO170 := n1_; have HO174 := n2_; have HB := n3_; clear n0_ n1_ n2_ n3_; (try clear hb); (try clear hb2); (try clear hk); (try clear hi)) | ((with_reducible refine gate_dst (N := 29) rfl ?_); (try (refine gate_guard (by rfl) ?_; dsimp only)); refine Kd.R_lit (Kd.int .i64) _ 3 ?hg (N := 29) ?hd (xs := ([4] : List Int)) (inner := [.int .i64 4]) (ok := fun _ => True) (okp := fun _ => True) ?hr ?hp (fun _ hk => hk) trivial (Below.refl _ _) (Nat.le_refl _) (by simp) ?_; (case hd => rfl); (case hg => rfl); (case hr => first | (go_simp; done) | (go_simp; rfl)); (case hp => exact (Reps.one (show Kd.M (Kd.int .i64) _ _ _ 4 [.int .i64 4] from rfl) (Reps.none _ _))); intro v177 w26 ho27 hb hg_ hnew_; clear hg_ hnew_; (first | rw [← Ny176.out] at ho27 | (simp only [Int.reduceToNat] at ho27; rw [← Ny176.out] at ho27)); have n0_ := Aside0.mk (Kd.R_below (by (with_reducible repeat (first | apply Kd.R_alloc | apply Kd.R_drewN | apply Kd.R_drew)); exact HO164.out) hb); have n1_ := Aside0.mk (Kd.R_elder' (by (with_reducible repeat (first | apply Kd.R_alloc | apply Kd.R_drewN | apply Kd.R_drew)); exact HO170.out) (Kd.R_base ho27) hb); have n2_ := Aside0.mk (Kd.R_elder' (by (with_reducible repeat (first | apply Kd.R_alloc | apply Kd.R_drewN | apply Kd.R_drew)); exact HO174.out) (Kd.R_base ho27) hb); have n3_ := Aside0.mk (Kd.R_lower (Kd.R_new' (Kd.R_new' ho27 (Kd.R_lt (by (with_reducible repeat (first | apply Kd.R_alloc | apply Kd.R_drewN | apply Kd.R_drew)); exact HO170.out))) (Kd.R_lt (by (with_reducible repeat (first | apply Kd.R_alloc | apply Kd.R_drewN | apply Kd.R_drew)); exact HO174.out))) (below_size (by repeat (first | (with_reducible first | exact HB.out | apply below_alloc | apply pw_below_drewN | apply below_drew1) | exact HB.out)))); have n4_ := Aside0.mk (below_step (by repeat (first | (with_reducible first | exact HB.out | apply below_alloc | apply pw_below_drewN | apply below_drew1) | exact HB.out)) hb); clear HO164; clear HO170; clear HO174; clear HB; have HO164 := n0_; have HO170 := n1_; have HO174 := n2_; have HO178 := n3_; have HB := n4_; clear n0_ n1_ n2_ n3_ n4_; clear hb ho27; obtain ⟨Ao28, co28, eo28⟩ := Kd.R_slice HO178.out; subst eo28) | (go_at_call 42; (with_reducible refine (styluslaw19_broken.calls k (⟨#[98, 98, 98, 98]⟩ : ByteArray) 1000100200100 _ _ y176 true _ ?side1 ?side2 A10.out).mono ?_); (case side1 => repeat (first | exact (Kd.R_reads' HO178.out).2.2 | (with_reducible refine Kd.C_alloc ?_ _) | (with_reducible refine Kd.C_drewN ?_ _) | (with_reducible refine Kd.C_drew ?_))); (case side2 => exact (Kd.R_reads' HO178.out).2.1); rintro e w29 ⟨rfl, hb⟩; have n0_ := Aside0.mk (Kd.R_below (by (with_reducible repeat (first | apply Kd.R_alloc | apply Kd.R_drewN | apply Kd.R_drew)); exact HO164.out) hb); have n1_ := Aside0.mk (Kd.R_below (by (with_reducible repeat (first | apply Kd.R_alloc | apply Kd.R_drewN | apply Kd.R_drew)); exact HO170.out) hb); have n2_ := Aside0.mk (Kd.R_below (by (with_reducible repeat (first | apply Kd.R_alloc | apply Kd.R_drewN | apply Kd.R_drew)); exact HO174.out) hb); have n3_ := Aside0.mk (Kd.R_below (by (with_reducible repeat (first | apply Kd.R_alloc | apply Kd.R_drewN | apply Kd.R_drew)); exact HO178.out) hb); have n4_ := Aside0.mk (below_step (by repeat (first | (with_reducible first | exact HB.out | apply below_alloc | apply pw_below_drewN | apply below_drew1) | exact HB.out)) hb); clear HO164; clear HO170; clear HO174; clear HO178; clear HB; have HO164 := n0_; have HO170 := n1_; have HO174 := n2_; have HO178 := n3_; have HB := n4_; clear n0_ n1_ n2_ n3_ n4_; (try clear hb); (try clear hb2); (try clear hk); (try clear hi)) | ((with_reducible refine gate_dst (N := 33) rfl ?_); (try (refine gate_guard (by rfl) ?_; dsimp only)); refine Kd.R_lit (Kd.int .i64) _ 3 ?hg (N := 33) ?hd (xs := ([2, 5] : List Int)) (inner := [.int .i64 2, .int .i64 5]) (ok := fun _ => True) (okp := fun _ => True) ?hr ?hp (fun _ hk => hk) trivial (Below.refl _ _) (Nat.le_refl _) (by simp) ?_; (case hd => rfl); (case hg => rfl); (case hr => first | (go_simp; done) | (go_simp; rfl)); (case hp => exact (Reps.one (show Kd.M (Kd.int .i64) _ _ _ 2 [.int .i64 2] from rfl) (Reps.one (show Kd.M (Kd.int .i64) _ _ _ 5 [.int .i64 5] from rfl) (Reps.none _ _)))); intro v181 w30 ho31 hb hg_ hnew_; clear hg_ hnew_; (first | rw [← Ny180.out] at ho31 | (simp only [Int.reduceToNat] at ho31; rw [← Ny180.out] at ho31)); have n0_ := Aside0.mk (Kd.R_below (by (with_reducible repeat (first | apply Kd.R_alloc | apply Kd.R_drewN | apply Kd.R_drew)); exact HO164.out) hb); have n1_ := Aside0.mk (Kd.R_elder' (by (with_reducible repeat (first | apply Kd.R_alloc | apply Kd.R_drewN | apply Kd.R_drew)); exact HO170.out) (Kd.R_base ho31) hb); have n2_ := Aside0.mk (Kd.R_elder' (by (with_reducible repeat (first | apply Kd.R_alloc | apply Kd.R_drewN | apply Kd.R_drew)); exact HO174.out) (Kd.R_base ho31) hb); have n3_ := Aside0.mk (Kd.R_elder' (by (with_reducible repeat (first | apply Kd.R_alloc | apply Kd.R_drewN | apply Kd.R_drew)); exact HO178.out) (Kd.R_base ho31) hb); have n4_ := Aside0.mk (Kd.R_lower (Kd.R_new' (Kd.R_new' (Kd.R_new' ho31 (Kd.R_lt (by (with_reducible repeat (first | apply Kd.R_alloc | apply Kd.R_drewN | apply Kd.R_drew)); exact HO170.out))) (Kd.R_lt (by (with_reducible repeat (first | apply Kd.R_alloc | apply Kd.R_drewN | apply Kd.R_drew)); exact HO174.out))) (Kd.R_lt (by (with_reducible repeat (first | apply Kd.R_alloc | apply Kd.R_drewN | apply Kd.R_drew)); exact HO178.out))) (below_size (by repeat (first | (with_reducible first | exact HB.out | apply below_alloc | apply pw_below_drewN | apply below_drew1) | exact HB.out)))); have n5_ := Aside0.mk (below_step (by repeat (first | (with_reducible first | exact HB.out | apply below_alloc | apply pw_below_drewN | apply below_drew1) | exact HB.out)) hb); clear HO164; clear HO170; clear HO174; clear HO178; clear HB; have HO164 := n0_; have HO170 := n1_; have HO174 := n2_; have HO178 := n3_; have HO182 := n4_; have HB := n5_; clear n0_ n1_ n2_ n3_ n4_ n5_; clear hb ho31; obtain ⟨Ao32, co32, eo32⟩ := Kd.R_slice HO182.out; subst eo32) | (go_at_call 42; (with_reducible refine (styluslaw19_broken.calls k (⟨#[98, 98, 104, 98, 98]⟩ : ByteArray) 100202700 _ _ y180 true _ ?side1 ?side2 A12.out).mono ?_); (case side1 => repeat (first | exact (Kd.R_reads' HO182.out).2.2 | (with_reducible refine Kd.C_alloc ?_ _) | (with_reducible refine Kd.C_drewN ?_ _) | (with_reducible refine Kd.C_drew ?_))); (case side2 => exact (Kd.R_reads' HO182.out).2.1); rintro e w33 ⟨rfl, hb⟩; have n0_ := Aside0.mk (Kd.R_below (by (with_reducible repeat (first | apply Kd.R_alloc | apply Kd.R_drewN | apply Kd.R_drew)); exact HO164.out) hb); have n1_ := Aside0.mk (Kd.R_below (by (with_reducible repeat (first | apply Kd.R_alloc | apply Kd.R_drewN | apply Kd.R_drew)); exact HO170.out) hb); have n2_ := Aside0.mk (Kd.R_below (by (with_reducible repeat (first | apply Kd.R_alloc | apply Kd.R_drewN | apply Kd.R_drew)); exact HO174.out) hb); have n3_ := Aside0.mk (Kd.R_below (by (with_reducible repeat (first | apply Kd.R_alloc | apply Kd.R_drewN | apply Kd.R_drew)); exact HO178.out) hb); have n4_ := Aside0.mk (Kd.R_below (by (with_reducible repeat (first | apply Kd.R_alloc | apply Kd.R_drewN | apply Kd.R_drew)); exact HO182.out) hb); have n5_ := Aside0.mk (below_step (by repeat (first | (with_reducible first | exact HB.out | apply below_alloc | apply pw_below_drewN | apply below_drew1) | exact HB.out)) hb); clear HO164; clear HO170; clear HO174; clear HO178; clear HO182; clear HB; have HO164 := n0_; have HO170 := n1_; have HO174 := n2_; have HO178 := n3_; have HO182 := n4_; have HB := n5_; clear n0_ n1_ n2_ n3_ n4_ n5_; (try clear hb); (try clear hb2); (try clear hk); (try clear hi)) | ((with_reducible refine gate_dst (N := 37) rfl ?_); (try (refine gate_guard (by rfl) ?_; dsimp only)); refine Kd.R_lit (Kd.int .i64) _ 3 ?hg (N := 37) ?hd (xs := ([0] : List Int)) (inner := [.int .i64 0]) (ok := fun _ => True) (okp := fun _ => True) ?hr ?hp (fun _ hk => hk) trivial (Below.refl _ _) (Nat.le_refl _) (by simp) ?_; (case hd => rfl); (case hg => rfl); (case hr => first | (go_simp; done) | (go_simp; rfl)); (case hp => exact (Reps.one (show Kd.M (Kd.int .i64) _ _ _ 0 [.int .i64 0] from rfl) (Reps.none _ _))); intro v185 w34 ho35 hb hg_ hnew_; clear hg_ hnew_; (first | rw [← Ny184.out] at ho35 | (simp only [Int.reduceToNat] at ho35; rw [← Ny184.out] at ho35)); have n0_ := Aside0.mk (Kd.R_below (by (with_reducible repeat (first | apply Kd.R_alloc | apply Kd.R_drewN | apply Kd.R_drew)); exact HO164.out) hb); have n1_ := Aside0.mk (Kd.R_elder' (by (with_reducible repeat (first | apply Kd.R_alloc | apply Kd.R_drewN | apply Kd.R_drew)); exact HO170.out) (Kd.R_base ho35) hb); have n2_ := Aside0.mk (Kd.R_elder' (by (with_reducible repeat (first | apply Kd.R_alloc | apply Kd.R_drewN | apply Kd.R_drew)); exact HO174.out) (Kd.R_base ho35) hb); have n3_ := Aside0.mk (Kd.R_elder' (by (with_reducible repeat (first | apply Kd.R_alloc | apply Kd.R_drewN | apply Kd.R_drew)); exact HO178.out) (Kd.R_base ho35) hb); have n4_ := Aside0.mk (Kd.R_elder' (by (with_reducible repeat (first | apply Kd.R_alloc | apply Kd.R_drewN | apply Kd.R_drew)); exact HO182.out) (Kd.R_base ho35) hb); have n5_ := Aside0.mk (Kd.R_lower (Kd.R_new' (Kd.R_new' (Kd.R_new' (Kd.R_new' ho35 (Kd.R_lt (by (with_reducible repeat (first | apply Kd.R_alloc | apply Kd.R_drewN | apply Kd.R_drew)); exact HO170.out))) (Kd.R_lt (by (with_reducible repeat (first | apply Kd.R_alloc | apply Kd.R_drewN | apply Kd.R_drew)); exact HO174.out))) (Kd.R_lt (by (with_reducible repeat (first | apply Kd.R_alloc | apply Kd.R_drewN | apply Kd.R_drew)); exact HO178.out))) (Kd.R_lt (by (with_reducible repeat (first | apply Kd.R_alloc | apply Kd.R_drewN | apply Kd.R_drew)); exact HO182.out))) (below_size (by repeat (first | (with_reducible first | exact HB.out | apply below_alloc | apply pw_below_drewN | apply below_drew1) | exact HB.out)))); have n6_ := Aside0.mk (below_step (by repeat (first | (with_reducible first | exact HB.out | apply below_alloc | apply pw_below_drewN | apply below_drew1) | exact HB.out)) hb); clear HO164; clear HO170; clear HO174; clear HO178; clear HO182; clear HB; have HO164 := n0_; have HO170 := n1_; have HO174 := n2_; have HO178 := n3_; have HO182 := n4_; have HO186 := n5_; have HB := n6_; clear n0_ n1_ n2_ n3_ n4_ n5_ n6_; clear hb ho35; obtain ⟨Ao36, co36, eo36⟩ := Kd.R_slice HO186.out; subst eo36) | (go_at_call 42; (with_reducible refine (styluslaw19_broken.calls k (⟨#[]⟩ : ByteArray) 100 _ _ y184 t187 _ ?side1 ?side2 A14.out).mono ?_); (case side1 => repeat (first | exact (Kd.R_reads' HO186.out).2.2 | (with_reducible refine Kd.C_alloc ?_ _) | (with_reducible refine Kd.C_drewN ?_ _) | (with_reducible refine Kd.C_drew ?_))); (case side2 => exact (Kd.R_reads' HO186.out).2.1); rintro e w37 ⟨rfl, hb⟩; have n0_ := Aside0.mk (Kd.R_below (by (with_reducible repeat (first | apply Kd.R_alloc | apply Kd.R_drewN | apply Kd.R_drew)); exact HO164.out) hb); have n1_ := Aside0.mk (Kd.R_below (by (with_reducible repeat (first | apply Kd.R_alloc | apply Kd.R_drewN | apply Kd.R_drew)); exact HO170.out) hb); have n2_ := Aside0.mk (Kd.R_below (by (with_reducible repeat (first | apply Kd.R_alloc | apply Kd.R_drewN | apply Kd.R_drew)); exact HO174.out) hb); have n3_ := Aside0.mk (Kd.R_below (by (with_reducible repeat (first | apply Kd.R_alloc | apply Kd.R_drewN | apply Kd.R_drew)); exact HO178.out) hb); have n4_ := Aside0.mk (Kd.R_below (by (with_reducible repeat (first | apply Kd.R_alloc | apply Kd.R_drewN | apply Kd.R_drew)); exact HO182.out) hb); have n5_ := Aside0.mk (Kd.R_below (by (with_reducible repeat (first | apply Kd.R_alloc | apply Kd.R_drewN | apply Kd.R_drew)); exact HO186.out) hb); have n6_ := Aside0.mk (below_step (by repeat (first | (with_reducible first | exact HB.out | apply below_alloc | apply pw_below_drewN | apply below_drew1) | exact HB.out)) hb); clear HO164; clear HO170; clear HO174; clear HO178; clear HO182; clear HO186; clear HB; have HO164 := n0_; have HO170 := n1_; have HO174 := n2_; have HO178 := n3_; have HO182 := n4_; have HO186 := n5_; have HB := n6_; clear n0_ n1_ n2_ n3_ n4_ n5_ n6_; (try clear hb); (try clear hb2); (try clear hk); (try clear hi)))
                go_ret
                exact ⟨by first | rfl | (simp [errW_none, errW_some] <;> rfl) | (simp [*, errW_none, errW_some] <;> rfl), by repeat (first | (with_reducible first | exact HB.out | apply below_alloc | apply pw_below_drewN | apply below_drew1) | exact HB.out)⟩
              · replace c13 := Bool.eq_false_iff.mpr c13
                subst c13
                have H1 : (some false) = some r := by rw [if_neg (show ¬ (false = true) by decide)] at H; exact H
                clear H
                have H := H1
                clear H1
                obtain rfl := Option.some.inj H
                go_enter Try.func12, Try.ntmps12
                go_wp2_with (first | ((with_reducible refine gate_callee (f := 41) rfl ?_); refine goesL_ (some 5) rfl rfl Try.func41 (by kernel_rfl) rfl #[.string (⟨#[98, 103, 98]⟩ : ByteArray)] rfl (by (try simp only [List.map_toArray, List.map_cons, List.map_nil]); first | done | rfl | (simp only [List.length_drop, List.length_take]; rfl)) ?_; (with_reducible refine (styluslaw19_of.calls k (⟨#[98, 103, 98]⟩ : ByteArray) t162 _ A1.out).mono ?_); rintro e w38 ⟨v163, rfl, ho0, hb⟩; refine ⟨_, rfl, ?_⟩; have n0_ := Aside0.mk (Kd.R_lower ho0 (below_size (by repeat (first | (with_reducible first | exact HB.out | apply below_alloc | apply pw_below_drewN | apply below_drew1) | exact HB.out)))); have n1_ := Aside0.mk (below_step (by repeat (first | (with_reducible first | exact HB.out | apply below_alloc | apply pw_below_drewN | apply below_drew1) | exact HB.out)) hb); clear HB; have HO164 := n0_; have HB := n1_; clear n0_ n1_; (try clear hb); (try clear hb2); (try clear hk); (try clear hi); (try clear ho0); obtain ⟨Ao39, co39, eo39⟩ := Kd.R_slice HO164.out; subst eo39) | ((with_reducible refine gate_callee (f := 19) rfl ?_); refine goesL_ (some 6) rfl rfl Try.func19 (by kernel_rfl) rfl #[.slice Ao39 t162.length co39, .int .i64 30, .int .i64 (-1), .int .i64 3] rfl (by (try simp only [List.map_toArray, List.map_cons, List.map_nil]); first | done | rfl | (simp only [List.length_drop, List.length_take]; rfl)) ?_; (with_reducible refine (best_Ratio.calls _ _ t162 30 (-1) 3 t165 t166 t167 _ ?side1 ?side2 A2.out).mono ?_); (case side1 => repeat (first | exact (Kd.R_reads' HO164.out).2.2 | (with_reducible refine Kd.C_alloc ?_ _) | (with_reducible refine Kd.C_drewN ?_ _) | (with_reducible refine Kd.C_drew ?_))); (case side2 => exact (Kd.R_reads' HO164.out).2.1); rintro e w40 ⟨rfl, hb⟩; refine ⟨_, rfl, ?_⟩; have n0_ := Aside0.mk (Kd.R_below (by (with_reducible repeat (first | apply Kd.R_alloc | apply Kd.R_drewN | apply Kd.R_drew)); exact HO164.out) hb); have n1_ := Aside0.mk (below_step (by repeat (first | (with_reducible first | exact HB.out | apply below_alloc | apply pw_below_drewN | apply below_drew1) | exact HB.out)) hb); clear HO164; clear HB; have HO164 := n0_; have HB := n1_; clear n0_ n1_; (try clear hb); (try clear hb2); (try clear hk); (try clear hi)) | ((with_reducible refine gate_dst (N := 21) rfl ?_); (try (refine gate_guard (by rfl) ?_; dsimp only)); refine Kd.R_lit (Kd.int .i64) _ 3 ?hg (N := 21) ?hd (xs := ([3] : List Int)) (inner := [.int .i64 3]) (ok := fun _ => True) (okp := fun _ => True) ?hr ?hp (fun _ hk => hk) trivial (Below.refl _ _) (Nat.le_refl _) (by simp) ?_; (case hd => rfl); (case hg => rfl); (case hr => first | (go_simp; done) | (go_simp; rfl)); (case hp => exact (Reps.one (show Kd.M (Kd.int .i64) _ _ _ 3 [.int .i64 3] from rfl) (Reps.none _ _))); intro v169 w41 ho42 hb hg_ hnew_; clear hg_ hnew_; (first | rw [← Ny168.out] at ho42 | (simp only [Int.reduceToNat] at ho42; rw [← Ny168.out] at ho42)); have n0_ := Aside0.mk (Kd.R_below (by (with_reducible repeat (first | apply Kd.R_alloc | apply Kd.R_drewN | apply Kd.R_drew)); exact HO164.out) hb); have n1_ := Aside0.mk (Kd.R_lower ho42 (below_size (by repeat (first | (with_reducible first | exact HB.out | apply below_alloc | apply pw_below_drewN | apply below_drew1) | exact HB.out)))); have n2_ := Aside0.mk (below_step (by repeat (first | (with_reducible first | exact HB.out | apply below_alloc | apply pw_below_drewN | apply below_drew1) | exact HB.out)) hb); clear HO164; clear HB; have HO164 := n0_; have HO170 := n1_; have HB := n2_; clear n0_ n1_ n2_; clear hb ho42; obtain ⟨Ao43, co43, eo43⟩ := Kd.R_slice HO170.out; subst eo43) | (go_at_call 42; (with_reducible refine (styluslaw19_broken.calls k (⟨#[98, 103, 98]⟩ : ByteArray) 100 _ _ y168 true _ ?side1 ?side2 A6.out).mono ?_); (case side1 => repeat (first | exact (Kd.R_reads' HO170.out).2.2 | (with_reducible refine Kd.C_alloc ?_ _) | (with_reducible refine Kd.C_drewN ?_ _) | (with_reducible refine Kd.C_drew ?_))); (case side2 => exact (Kd.R_reads' HO170.out).2.1); rintro e w44 ⟨rfl, hb⟩; have n0_ := Aside0.mk (Kd.R_below (by (with_reducible repeat (first | apply Kd.R_alloc | apply Kd.R_drewN | apply Kd.R_drew)); exact HO164.out) hb); have n1_ := Aside0.mk (Kd.R_below (by (with_reducible repeat (first | apply Kd.R_alloc | apply Kd.R_drewN | apply Kd.R_drew)); exact HO170.out) hb); have n2_ := Aside0.mk (below_step (by repeat (first | (with_reducible first | exact HB.out | apply below_alloc | apply pw_below_drewN | apply below_drew1) | exact HB.out)) hb); clear HO164; clear HO170; clear HB; have HO164 := n0_; have HO170 := n1_; have HB := n2_; clear n0_ n1_ n2_; (try clear hb); (try clear hb2); (try clear hk); (try clear hi)) | ((with_reducible refine gate_dst (N := 25) rfl ?_); (try (refine gate_guard (by rfl) ?_; dsimp only)); refine Kd.R_lit (Kd.int .i64) _ 3 ?hg (N := 25) ?hd (xs := ([3, 5] : List Int)) (inner := [.int .i64 3, .int .i64 5]) (ok := fun _ => True) (okp := fun _ => True) ?hr ?hp (fun _ hk => hk) trivial (Below.refl _ _) (Nat.le_refl _) (by simp) ?_; (case hd => rfl); (case hg => rfl); (case hr => first | (go_simp; done) | (go_simp; rfl)); (case hp => exact (Reps.one (show Kd.M (Kd.int .i64) _ _ _ 3 [.int .i64 3] from rfl) (Reps.one (show Kd.M (Kd.int .i64) _ _ _ 5 [.int .i64 5] from rfl) (Reps.none _ _)))); intro v173 w45 ho46 hb hg_ hnew_; clear hg_ hnew_; (first | rw [← Ny172.out] at ho46 | (simp only [Int.reduceToNat] at ho46; rw [← Ny172.out] at ho46)); have n0_ := Aside0.mk (Kd.R_below (by (with_reducible repeat (first | apply Kd.R_alloc | apply Kd.R_drewN | apply Kd.R_drew)); exact HO164.out) hb); have n1_ := Aside0.mk (Kd.R_elder' (by (with_reducible repeat (first | apply Kd.R_alloc | apply Kd.R_drewN | apply Kd.R_drew)); exact HO170.out) (Kd.R_base ho46) hb); have n2_ := Aside0.mk (Kd.R_lower (Kd.R_new' ho46 (Kd.R_lt (by (with_reducible repeat (first | apply Kd.R_alloc | apply Kd.R_drewN | apply Kd.R_drew)); exact HO170.out))) (below_size (by repeat (first | (with_reducible first | exact HB.out | apply below_alloc | apply pw_below_drewN | apply below_drew1) | exact HB.out)))); have n3_ := Aside0.mk (below_step (by repeat (first | (with_reducible first | exact HB.out | apply below_alloc | apply pw_below_drewN | apply below_drew1) | exact HB.out)) hb); clear HO164; clear HO170; clear HB; have HO164 := n0_; have HO170 := n1_; have HO174 := n2_; have HB := n3_; clear n0_ n1_ n2_ n3_; clear hb ho46; obtain ⟨Ao47, co47, eo47⟩ := Kd.R_slice HO174.out; subst eo47) | (go_at_call 42; (with_reducible refine (styluslaw19_broken.calls k (⟨#[98, 103, 98, 103, 98]⟩ : ByteArray) 200 _ _ y172 true _ ?side1 ?side2 A8.out).mono ?_); (case side1 => repeat (first | exact (Kd.R_reads' HO174.out).2.2 | (with_reducible refine Kd.C_alloc ?_ _) | (with_reducible refine Kd.C_drewN ?_ _) | (with_reducible refine Kd.C_drew ?_))); (case side2 => exact (Kd.R_reads' HO174.out).2.1); rintro e w48 ⟨rfl, hb⟩; have n0_ := Aside0.mk (Kd.R_below (by (with_reducible repeat (first | apply Kd.R_alloc | apply Kd.R_drewN | apply Kd.R_drew)); exact HO164.out) hb); have n1_ := Aside0.mk (Kd.R_below (by (with_reducible repeat (first | apply Kd.R_alloc | apply Kd.R_drewN | apply Kd.R_drew)); exact HO170.out) hb); have n2_ := Aside0.mk (Kd.R_below (by (with_reducible repeat (first | apply Kd.R_alloc | apply Kd.R_drewN | apply Kd.R_drew)); exact HO174.out) hb); have n3_ := Aside0.mk (below_step (by repeat (first | (with_reducible first | exact HB.out | apply below_alloc | apply pw_below_drewN | apply below_drew1) | exact HB.out)) hb); clear HO164; clear HO170; clear HO174; clear HB; have HO164 := n0_; have HO170 := n1_; have HO174 := n2_; have HB := n3_; clear n0_ n1_ n2_ n3_; (try clear hb); (try clear hb2); (try clear hk); (try clear hi)) | ((with_reducible refine gate_dst (N := 29) rfl ?_); (try (refine gate_guard (by rfl) ?_; dsimp only)); refine Kd.R_lit (Kd.int .i64) _ 3 ?hg (N := 29) ?hd (xs := ([4] : List Int)) (inner := [.int .i64 4]) (ok := fun _ => True) (okp := fun _ => True) ?hr ?hp (fun _ hk => hk) trivial (Below.refl _ _) (Nat.le_refl _) (by simp) ?_; (case hd => rfl); (case hg => rfl); (case hr => first | (go_simp; done) | (go_simp; rfl)); (case hp => exact (Reps.one (show Kd.M (Kd.int .i64) _ _ _ 4 [.int .i64 4] from rfl) (Reps.none _ _))); intro v177 w49 ho50 hb hg_ hnew_; clear hg_ hnew_; (first | rw [← Ny176.out] at ho50 | (simp only [Int.reduceToNat] at ho50; rw [← Ny176.out] at ho50)); have n0_ := Aside0.mk (Kd.R_below (by (with_reducible repeat (first | apply Kd.R_alloc | apply Kd.R_drewN | apply Kd.R_drew)); exact HO164.out) hb); have n1_ := Aside0.mk (Kd.R_elder' (by (with_reducible repeat (first | apply Kd.R_alloc | apply Kd.R_drewN | apply Kd.R_drew)); exact HO170.out) (Kd.R_base ho50) hb); have n2_ := Aside0.mk (Kd.R_elder' (by (with_reducible repeat (first | apply Kd.R_alloc | apply Kd.R_drewN | apply Kd.R_drew)); exact HO174.out) (Kd.R_base ho50) hb); have n3_ := Aside0.mk (Kd.R_lower (Kd.R_new' (Kd.R_new' ho50 (Kd.R_lt (by (with_reducible repeat (first | apply Kd.R_alloc | apply Kd.R_drewN | apply Kd.R_drew)); exact HO170.out))) (Kd.R_lt (by (with_reducible repeat (first | apply Kd.R_alloc | apply Kd.R_drewN | apply Kd.R_drew)); exact HO174.out))) (below_size (by repeat (first | (with_reducible first | exact HB.out | apply below_alloc | apply pw_below_drewN | apply below_drew1) | exact HB.out)))); have n4_ := Aside0.mk (below_step (by repeat (first | (with_reducible first | exact HB.out | apply below_alloc | apply pw_below_drewN | apply below_drew1) | exact HB.out)) hb); clear HO164; clear HO170; clear HO174; clear HB; have HO164 := n0_; have HO170 := n1_; have HO174 := n2_; have HO178 := n3_; have HB := n4_; clear n0_ n1_ n2_ n3_ n4_; clear hb ho50; obtain ⟨Ao51, co51, eo51⟩ := Kd.R_slice HO178.out; subst eo51) | (go_at_call 42; (with_reducible refine (styluslaw19_broken.calls k (⟨#[98, 98, 98, 98]⟩ : ByteArray) 1000100200100 _ _ y176 true _ ?side1 ?side2 A10.out).mono ?_); (case side1 => repeat (first | exact (Kd.R_reads' HO178.out).2.2 | (with_reducible refine Kd.C_alloc ?_ _) | (with_reducible refine Kd.C_drewN ?_ _) | (with_reducible refine Kd.C_drew ?_))); (case side2 => exact (Kd.R_reads' HO178.out).2.1); rintro e w52 ⟨rfl, hb⟩; have n0_ := Aside0.mk (Kd.R_below (by (with_reducible repeat (first | apply Kd.R_alloc | apply Kd.R_drewN | apply Kd.R_drew)); exact HO164.out) hb); have n1_ := Aside0.mk (Kd.R_below (by (with_reducible repeat (first | apply Kd.R_alloc | apply Kd.R_drewN | apply Kd.R_drew)); exact HO170.out) hb); have n2_ := Aside0.mk (Kd.R_below (by (with_reducible repeat (first | apply Kd.R_alloc | apply Kd.R_drewN | apply Kd.R_drew)); exact HO174.out) hb); have n3_ := Aside0.mk (Kd.R_below (by (with_reducible repeat (first | apply Kd.R_alloc | apply Kd.R_drewN | apply Kd.R_drew)); exact HO178.out) hb); have n4_ := Aside0.mk (below_step (by repeat (first | (with_reducible first | exact HB.out | apply below_alloc | apply pw_below_drewN | apply below_drew1) | exact HB.out)) hb); clear HO164; clear HO170; clear HO174; clear HO178; clear HB; have HO164 := n0_; have HO170 := n1_; have HO174 := n2_; have HO178 := n3_; have HB := n4_; clear n0_ n1_ n2_ n3_ n4_; (try clear hb); (try clear hb2); (try clear hk); (try clear hi)) | ((with_reducible refine gate_dst (N := 33) rfl ?_); (try (refine gate_guard (by rfl) ?_; dsimp only)); refine Kd.R_lit (Kd.int .i64) _ 3 ?hg (N := 33) ?hd (xs := ([2, 5] : List Int)) (inner := [.int .i64 2, .int .i64 5]) (ok := fun _ => True) (okp := fun _ => True) ?hr ?hp (fun _ hk => hk) trivial (Below.refl _ _) (Nat.le_refl _) (by simp) ?_; (case hd => rfl); (case hg => rfl); (case hr => first | (go_simp; done) | (go_simp; rfl)); (case hp => exact (Reps.one (show Kd.M (Kd.int .i64) _ _ _ 2 [.int .i64 2] from rfl) (Reps.one (show Kd.M (Kd.int .i64) _ _ _ 5 [.int .i64 5] from rfl) (Reps.none _ _)))); intro v181 w53 ho54 hb hg_ hnew_; clear hg_ hnew_; (first | rw [← Ny180.out] at ho54 | (simp only [Int.reduceToNat] at ho54; rw [← Ny180.out] at ho54)); have n0_ := Aside0.mk (Kd.R_below (by (with_reducible repeat (first | apply Kd.R_alloc | apply Kd.R_drewN | apply Kd.R_drew)); exact HO164.out) hb); have n1_ := Aside0.mk (Kd.R_elder' (by (with_reducible repeat (first | apply Kd.R_alloc | apply Kd.R_drewN | apply Kd.R_drew)); exact HO170.out) (Kd.R_base ho54) hb); have n2_ := Aside0.mk (Kd.R_elder' (by (with_reducible repeat (first | apply Kd.R_alloc | apply Kd.R_drewN | apply Kd.R_drew)); exact HO174.out) (Kd.R_base ho54) hb); have n3_ := Aside0.mk (Kd.R_elder' (by (with_reducible repeat (first | apply Kd.R_alloc | apply Kd.R_drewN | apply Kd.R_drew)); exact HO178.out) (Kd.R_base ho54) hb); have n4_ := Aside0.mk (Kd.R_lower (Kd.R_new' (Kd.R_new' (Kd.R_new' ho54 (Kd.R_lt (by (with_reducible repeat (first | apply Kd.R_alloc | apply Kd.R_drewN | apply Kd.R_drew)); exact HO170.out))) (Kd.R_lt (by (with_reducible repeat (first | apply Kd.R_alloc | apply Kd.R_drewN | apply Kd.R_drew)); exact HO174.out))) (Kd.R_lt (by (with_reducible repeat (first | apply Kd.R_alloc | apply Kd.R_drewN | apply Kd.R_drew)); exact HO178.out))) (below_size (by repeat (first | (with_reducible first | exact HB.out | apply below_alloc | apply pw_below_drewN | apply below_drew1) | exact HB.out)))); have n5_ := Aside0.mk (below_step (by repeat (first | (with_reducible first | exact HB.out | apply below_alloc | apply pw_below_drewN | apply below_drew1) | exact HB.out)) hb); clear HO164; clear HO170; clear HO174; clear HO178; clear HB; have HO164 := n0_; have HO170 := n1_; have HO174 := n2_; have HO178 := n3_; have HO182 := n4_; have HB := n5_; clear n0_ n1_ n2_ n3_ n4_ n5_; clear hb ho54; obtain ⟨Ao55, co55, eo55⟩ := Kd.R_slice HO182.out; subst eo55) | (go_at_call 42; (with_reducible refine (styluslaw19_broken.calls k (⟨#[98, 98, 104, 98, 98]⟩ : ByteArray) 100202700 _ _ y180 false _ ?side1 ?side2 A12.out).mono ?_); (case side1 => repeat (first | exact (Kd.R_reads' HO182.out).2.2 | (with_reducible refine Kd.C_alloc ?_ _) | (with_reducible refine Kd.C_drewN ?_ _) | (with_reducible refine Kd.C_drew ?_))); (case side2 => exact (Kd.R_reads' HO182.out).2.1); rintro e w56 ⟨rfl, hb⟩; have n0_ := Aside0.mk (Kd.R_below (by (with_reducible repeat (first | apply Kd.R_alloc | apply Kd.R_drewN | apply Kd.R_drew)); exact HO164.out) hb); have n1_ := Aside0.mk (Kd.R_below (by (with_reducible repeat (first | apply Kd.R_alloc | apply Kd.R_drewN | apply Kd.R_drew)); exact HO170.out) hb); have n2_ := Aside0.mk (Kd.R_below (by (with_reducible repeat (first | apply Kd.R_alloc | apply Kd.R_drewN | apply Kd.R_drew)); exact HO174.out) hb); have n3_ := Aside0.mk (Kd.R_below (by (with_reducible repeat (first | apply Kd.R_alloc | apply Kd.R_drewN | apply Kd.R_drew)); exact HO178.out) hb); have n4_ := Aside0.mk (Kd.R_below (by (with_reducible repeat (first | apply Kd.R_alloc | apply Kd.R_drewN | apply Kd.R_drew)); exact HO182.out) hb); have n5_ := Aside0.mk (below_step (by repeat (first | (with_reducible first | exact HB.out | apply below_alloc | apply pw_below_drewN | apply below_drew1) | exact HB.out)) hb); clear HO164; clear HO170; clear HO174; clear HO178; clear HO182; clear HB; have HO164 := n0_; have HO170 := n1_; have HO174 := n2_; have HO178 := n3_; have HO182 := n4_; have HB := n5_; clear n0_ n1_ n2_ n3_ n4_ n5_; (try clear hb); (try clear hb2); (try clear hk); (try clear hi)))
                go_ret
                exact ⟨by first | rfl | (simp [errW_none, errW_some] <;> rfl) | (simp [*, errW_none, errW_some] <;> rfl), by repeat (first | (with_reducible first | exact HB.out | apply below_alloc | apply pw_below_drewN | apply below_drew1) | exact HB.out)⟩
            · replace c11 := Bool.eq_false_iff.mpr c11
              subst c11
              have H1 : (some false) = some r := by rw [if_neg (show ¬ (false = true) by decide)] at H; exact H
              clear H
              have H := H1
              clear H1
              obtain rfl := Option.some.inj H
              go_enter Try.func12, Try.ntmps12
              go_wp2_with (first | ((with_reducible refine gate_callee (f := 41) rfl ?_); refine goesL_ (some 5) rfl rfl Try.func41 (by kernel_rfl) rfl #[.string (⟨#[98, 103, 98]⟩ : ByteArray)] rfl (by (try simp only [List.map_toArray, List.map_cons, List.map_nil]); first | done | rfl | (simp only [List.length_drop, List.length_take]; rfl)) ?_; (with_reducible refine (styluslaw19_of.calls k (⟨#[98, 103, 98]⟩ : ByteArray) t162 _ A1.out).mono ?_); rintro e w57 ⟨v163, rfl, ho0, hb⟩; refine ⟨_, rfl, ?_⟩; have n0_ := Aside0.mk (Kd.R_lower ho0 (below_size (by repeat (first | (with_reducible first | exact HB.out | apply below_alloc | apply pw_below_drewN | apply below_drew1) | exact HB.out)))); have n1_ := Aside0.mk (below_step (by repeat (first | (with_reducible first | exact HB.out | apply below_alloc | apply pw_below_drewN | apply below_drew1) | exact HB.out)) hb); clear HB; have HO164 := n0_; have HB := n1_; clear n0_ n1_; (try clear hb); (try clear hb2); (try clear hk); (try clear hi); (try clear ho0); obtain ⟨Ao58, co58, eo58⟩ := Kd.R_slice HO164.out; subst eo58) | ((with_reducible refine gate_callee (f := 19) rfl ?_); refine goesL_ (some 6) rfl rfl Try.func19 (by kernel_rfl) rfl #[.slice Ao58 t162.length co58, .int .i64 30, .int .i64 (-1), .int .i64 3] rfl (by (try simp only [List.map_toArray, List.map_cons, List.map_nil]); first | done | rfl | (simp only [List.length_drop, List.length_take]; rfl)) ?_; (with_reducible refine (best_Ratio.calls _ _ t162 30 (-1) 3 t165 t166 t167 _ ?side1 ?side2 A2.out).mono ?_); (case side1 => repeat (first | exact (Kd.R_reads' HO164.out).2.2 | (with_reducible refine Kd.C_alloc ?_ _) | (with_reducible refine Kd.C_drewN ?_ _) | (with_reducible refine Kd.C_drew ?_))); (case side2 => exact (Kd.R_reads' HO164.out).2.1); rintro e w59 ⟨rfl, hb⟩; refine ⟨_, rfl, ?_⟩; have n0_ := Aside0.mk (Kd.R_below (by (with_reducible repeat (first | apply Kd.R_alloc | apply Kd.R_drewN | apply Kd.R_drew)); exact HO164.out) hb); have n1_ := Aside0.mk (below_step (by repeat (first | (with_reducible first | exact HB.out | apply below_alloc | apply pw_below_drewN | apply below_drew1) | exact HB.out)) hb); clear HO164; clear HB; have HO164 := n0_; have HB := n1_; clear n0_ n1_; (try clear hb); (try clear hb2); (try clear hk); (try clear hi)) | ((with_reducible refine gate_dst (N := 21) rfl ?_); (try (refine gate_guard (by rfl) ?_; dsimp only)); refine Kd.R_lit (Kd.int .i64) _ 3 ?hg (N := 21) ?hd (xs := ([3] : List Int)) (inner := [.int .i64 3]) (ok := fun _ => True) (okp := fun _ => True) ?hr ?hp (fun _ hk => hk) trivial (Below.refl _ _) (Nat.le_refl _) (by simp) ?_; (case hd => rfl); (case hg => rfl); (case hr => first | (go_simp; done) | (go_simp; rfl)); (case hp => exact (Reps.one (show Kd.M (Kd.int .i64) _ _ _ 3 [.int .i64 3] from rfl) (Reps.none _ _))); intro v169 w60 ho61 hb hg_ hnew_; clear hg_ hnew_; (first | rw [← Ny168.out] at ho61 | (simp only [Int.reduceToNat] at ho61; rw [← Ny168.out] at ho61)); have n0_ := Aside0.mk (Kd.R_below (by (with_reducible repeat (first | apply Kd.R_alloc | apply Kd.R_drewN | apply Kd.R_drew)); exact HO164.out) hb); have n1_ := Aside0.mk (Kd.R_lower ho61 (below_size (by repeat (first | (with_reducible first | exact HB.out | apply below_alloc | apply pw_below_drewN | apply below_drew1) | exact HB.out)))); have n2_ := Aside0.mk (below_step (by repeat (first | (with_reducible first | exact HB.out | apply below_alloc | apply pw_below_drewN | apply below_drew1) | exact HB.out)) hb); clear HO164; clear HB; have HO164 := n0_; have HO170 := n1_; have HB := n2_; clear n0_ n1_ n2_; clear hb ho61; obtain ⟨Ao62, co62, eo62⟩ := Kd.R_slice HO170.out; subst eo62) | (go_at_call 42; (with_reducible refine (styluslaw19_broken.calls k (⟨#[98, 103, 98]⟩ : ByteArray) 100 _ _ y168 true _ ?side1 ?side2 A6.out).mono ?_); (case side1 => repeat (first | exact (Kd.R_reads' HO170.out).2.2 | (with_reducible refine Kd.C_alloc ?_ _) | (with_reducible refine Kd.C_drewN ?_ _) | (with_reducible refine Kd.C_drew ?_))); (case side2 => exact (Kd.R_reads' HO170.out).2.1); rintro e w63 ⟨rfl, hb⟩; have n0_ := Aside0.mk (Kd.R_below (by (with_reducible repeat (first | apply Kd.R_alloc | apply Kd.R_drewN | apply Kd.R_drew)); exact HO164.out) hb); have n1_ := Aside0.mk (Kd.R_below (by (with_reducible repeat (first | apply Kd.R_alloc | apply Kd.R_drewN | apply Kd.R_drew)); exact HO170.out) hb); have n2_ := Aside0.mk (below_step (by repeat (first | (with_reducible first | exact HB.out | apply below_alloc | apply pw_below_drewN | apply below_drew1) | exact HB.out)) hb); clear HO164; clear HO170; clear HB; have HO164 := n0_; have HO170 := n1_; have HB := n2_; clear n0_ n1_ n2_; (try clear hb); (try clear hb2); (try clear hk); (try clear hi)) | ((with_reducible refine gate_dst (N := 25) rfl ?_); (try (refine gate_guard (by rfl) ?_; dsimp only)); refine Kd.R_lit (Kd.int .i64) _ 3 ?hg (N := 25) ?hd (xs := ([3, 5] : List Int)) (inner := [.int .i64 3, .int .i64 5]) (ok := fun _ => True) (okp := fun _ => True) ?hr ?hp (fun _ hk => hk) trivial (Below.refl _ _) (Nat.le_refl _) (by simp) ?_; (case hd => rfl); (case hg => rfl); (case hr => first | (go_simp; done) | (go_simp; rfl)); (case hp => exact (Reps.one (show Kd.M (Kd.int .i64) _ _ _ 3 [.int .i64 3] from rfl) (Reps.one (show Kd.M (Kd.int .i64) _ _ _ 5 [.int .i64 5] from rfl) (Reps.none _ _)))); intro v173 w64 ho65 hb hg_ hnew_; clear hg_ hnew_; (first | rw [← Ny172.out] at ho65 | (simp only [Int.reduceToNat] at ho65; rw [← Ny172.out] at ho65)); have n0_ := Aside0.mk (Kd.R_below (by (with_reducible repeat (first | apply Kd.R_alloc | apply Kd.R_drewN | apply Kd.R_drew)); exact HO164.out) hb); have n1_ := Aside0.mk (Kd.R_elder' (by (with_reducible repeat (first | apply Kd.R_alloc | apply Kd.R_drewN | apply Kd.R_drew)); exact HO170.out) (Kd.R_base ho65) hb); have n2_ := Aside0.mk (Kd.R_lower (Kd.R_new' ho65 (Kd.R_lt (by (with_reducible repeat (first | apply Kd.R_alloc | apply Kd.R_drewN | apply Kd.R_drew)); exact HO170.out))) (below_size (by repeat (first | (with_reducible first | exact HB.out | apply below_alloc | apply pw_below_drewN | apply below_drew1) | exact HB.out)))); have n3_ := Aside0.mk (below_step (by repeat (first | (with_reducible first | exact HB.out | apply below_alloc | apply pw_below_drewN | apply below_drew1) | exact HB.out)) hb); clear HO164; clear HO170; clear HB; have HO164 := n0_; have HO170 := n1_; have HO174 := n2_; have HB := n3_; clear n0_ n1_ n2_ n3_; clear hb ho65; obtain ⟨Ao66, co66, eo66⟩ := Kd.R_slice HO174.out; subst eo66) | (go_at_call 42; (with_reducible refine (styluslaw19_broken.calls k (⟨#[98, 103, 98, 103, 98]⟩ : ByteArray) 200 _ _ y172 true _ ?side1 ?side2 A8.out).mono ?_); (case side1 => repeat (first | exact (Kd.R_reads' HO174.out).2.2 | (with_reducible refine Kd.C_alloc ?_ _) | (with_reducible refine Kd.C_drewN ?_ _) | (with_reducible refine Kd.C_drew ?_))); (case side2 => exact (Kd.R_reads' HO174.out).2.1); rintro e w67 ⟨rfl, hb⟩; have n0_ := Aside0.mk (Kd.R_below (by (with_reducible repeat (first | apply Kd.R_alloc | apply Kd.R_drewN | apply Kd.R_drew)); exact HO164.out) hb); have n1_ := Aside0.mk (Kd.R_below (by (with_reducible repeat (first | apply Kd.R_alloc | apply Kd.R_drewN | apply Kd.R_drew)); exact HO170.out) hb); have n2_ := Aside0.mk (Kd.R_below (by (with_reducible repeat (first | apply Kd.R_alloc | apply Kd.R_drewN | apply Kd.R_drew)); exact HO174.out) hb); have n3_ := Aside0.mk (below_step (by repeat (first | (with_reducible first | exact HB.out | apply below_alloc | apply pw_below_drewN | apply below_drew1) | exact HB.out)) hb); clear HO164; clear HO170; clear HO174; clear HB; have HO164 := n0_; have HO170 := n1_; have HO174 := n2_; have HB := n3_; clear n0_ n1_ n2_ n3_; (try clear hb); (try clear hb2); (try clear hk); (try clear hi)) | ((with_reducible refine gate_dst (N := 29) rfl ?_); (try (refine gate_guard (by rfl) ?_; dsimp only)); refine Kd.R_lit (Kd.int .i64) _ 3 ?hg (N := 29) ?hd (xs := ([4] : List Int)) (inner := [.int .i64 4]) (ok := fun _ => True) (okp := fun _ => True) ?hr ?hp (fun _ hk => hk) trivial (Below.refl _ _) (Nat.le_refl _) (by simp) ?_; (case hd => rfl); (case hg => rfl); (case hr => first | (go_simp; done) | (go_simp; rfl)); (case hp => exact (Reps.one (show Kd.M (Kd.int .i64) _ _ _ 4 [.int .i64 4] from rfl) (Reps.none _ _))); intro v177 w68 ho69 hb hg_ hnew_; clear hg_ hnew_; (first | rw [← Ny176.out] at ho69 | (simp only [Int.reduceToNat] at ho69; rw [← Ny176.out] at ho69)); have n0_ := Aside0.mk (Kd.R_below (by (with_reducible repeat (first | apply Kd.R_alloc | apply Kd.R_drewN | apply Kd.R_drew)); exact HO164.out) hb); have n1_ := Aside0.mk (Kd.R_elder' (by (with_reducible repeat (first | apply Kd.R_alloc | apply Kd.R_drewN | apply Kd.R_drew)); exact HO170.out) (Kd.R_base ho69) hb); have n2_ := Aside0.mk (Kd.R_elder' (by (with_reducible repeat (first | apply Kd.R_alloc | apply Kd.R_drewN | apply Kd.R_drew)); exact HO174.out) (Kd.R_base ho69) hb); have n3_ := Aside0.mk (Kd.R_lower (Kd.R_new' (Kd.R_new' ho69 (Kd.R_lt (by (with_reducible repeat (first | apply Kd.R_alloc | apply Kd.R_drewN | apply Kd.R_drew)); exact HO170.out))) (Kd.R_lt (by (with_reducible repeat (first | apply Kd.R_alloc | apply Kd.R_drewN | apply Kd.R_drew)); exact HO174.out))) (below_size (by repeat (first | (with_reducible first | exact HB.out | apply below_alloc | apply pw_below_drewN | apply below_drew1) | exact HB.out)))); have n4_ := Aside0.mk (below_step (by repeat (first | (with_reducible first | exact HB.out | apply below_alloc | apply pw_below_drewN | apply below_drew1) | exact HB.out)) hb); clear HO164; clear HO170; clear HO174; clear HB; have HO164 := n0_; have HO170 := n1_; have HO174 := n2_; have HO178 := n3_; have HB := n4_; clear n0_ n1_ n2_ n3_ n4_; clear hb ho69; obtain ⟨Ao70, co70, eo70⟩ := Kd.R_slice HO178.out; subst eo70) | (go_at_call 42; (with_reducible refine (styluslaw19_broken.calls k (⟨#[98, 98, 98, 98]⟩ : ByteArray) 1000100200100 _ _ y176 false _ ?side1 ?side2 A10.out).mono ?_); (case side1 => repeat (first | exact (Kd.R_reads' HO178.out).2.2 | (with_reducible refine Kd.C_alloc ?_ _) | (with_reducible refine Kd.C_drewN ?_ _) | (with_reducible refine Kd.C_drew ?_))); (case side2 => exact (Kd.R_reads' HO178.out).2.1); rintro e w71 ⟨rfl, hb⟩; have n0_ := Aside0.mk (Kd.R_below (by (with_reducible repeat (first | apply Kd.R_alloc | apply Kd.R_drewN | apply Kd.R_drew)); exact HO164.out) hb); have n1_ := Aside0.mk (Kd.R_below (by (with_reducible repeat (first | apply Kd.R_alloc | apply Kd.R_drewN | apply Kd.R_drew)); exact HO170.out) hb); have n2_ := Aside0.mk (Kd.R_below (by (with_reducible repeat (first | apply Kd.R_alloc | apply Kd.R_drewN | apply Kd.R_drew)); exact HO174.out) hb); have n3_ := Aside0.mk (Kd.R_below (by (with_reducible repeat (first | apply Kd.R_alloc | apply Kd.R_drewN | apply Kd.R_drew)); exact HO178.out) hb); have n4_ := Aside0.mk (below_step (by repeat (first | (with_reducible first | exact HB.out | apply below_alloc | apply pw_below_drewN | apply below_drew1) | exact HB.out)) hb); clear HO164; clear HO170; clear HO174; clear HO178; clear HB; have HO164 := n0_; have HO170 := n1_; have HO174 := n2_; have HO178 := n3_; have HB := n4_; clear n0_ n1_ n2_ n3_ n4_; (try clear hb); (try clear hb2); (try clear hk); (try clear hi)))
              go_ret
              exact ⟨by first | rfl | (simp [errW_none, errW_some] <;> rfl) | (simp [*, errW_none, errW_some] <;> rfl), by repeat (first | (with_reducible first | exact HB.out | apply below_alloc | apply pw_below_drewN | apply below_drew1) | exact HB.out)⟩
          · replace c9 := Bool.eq_false_iff.mpr c9
            subst c9
            have H1 : (some false) = some r := by rw [if_neg (show ¬ (false = true) by decide)] at H; exact H
            clear H
            have H := H1
            clear H1
            obtain rfl := Option.some.inj H
            go_enter Try.func12, Try.ntmps12
            go_wp2_with (first | ((with_reducible refine gate_callee (f := 41) rfl ?_); refine goesL_ (some 5) rfl rfl Try.func41 (by kernel_rfl) rfl #[.string (⟨#[98, 103, 98]⟩ : ByteArray)] rfl (by (try simp only [List.map_toArray, List.map_cons, List.map_nil]); first | done | rfl | (simp only [List.length_drop, List.length_take]; rfl)) ?_; (with_reducible refine (styluslaw19_of.calls k (⟨#[98, 103, 98]⟩ : ByteArray) t162 _ A1.out).mono ?_); rintro e w72 ⟨v163, rfl, ho0, hb⟩; refine ⟨_, rfl, ?_⟩; have n0_ := Aside0.mk (Kd.R_lower ho0 (below_size (by repeat (first | (with_reducible first | exact HB.out | apply below_alloc | apply pw_below_drewN | apply below_drew1) | exact HB.out)))); have n1_ := Aside0.mk (below_step (by repeat (first | (with_reducible first | exact HB.out | apply below_alloc | apply pw_below_drewN | apply below_drew1) | exact HB.out)) hb); clear HB; have HO164 := n0_; have HB := n1_; clear n0_ n1_; (try clear hb); (try clear hb2); (try clear hk); (try clear hi); (try clear ho0); obtain ⟨Ao73, co73, eo73⟩ := Kd.R_slice HO164.out; subst eo73) | ((with_reducible refine gate_callee (f := 19) rfl ?_); refine goesL_ (some 6) rfl rfl Try.func19 (by kernel_rfl) rfl #[.slice Ao73 t162.length co73, .int .i64 30, .int .i64 (-1), .int .i64 3] rfl (by (try simp only [List.map_toArray, List.map_cons, List.map_nil]); first | done | rfl | (simp only [List.length_drop, List.length_take]; rfl)) ?_; (with_reducible refine (best_Ratio.calls _ _ t162 30 (-1) 3 t165 t166 t167 _ ?side1 ?side2 A2.out).mono ?_); (case side1 => repeat (first | exact (Kd.R_reads' HO164.out).2.2 | (with_reducible refine Kd.C_alloc ?_ _) | (with_reducible refine Kd.C_drewN ?_ _) | (with_reducible refine Kd.C_drew ?_))); (case side2 => exact (Kd.R_reads' HO164.out).2.1); rintro e w74 ⟨rfl, hb⟩; refine ⟨_, rfl, ?_⟩; have n0_ := Aside0.mk (Kd.R_below (by (with_reducible repeat (first | apply Kd.R_alloc | apply Kd.R_drewN | apply Kd.R_drew)); exact HO164.out) hb); have n1_ := Aside0.mk (below_step (by repeat (first | (with_reducible first | exact HB.out | apply below_alloc | apply pw_below_drewN | apply below_drew1) | exact HB.out)) hb); clear HO164; clear HB; have HO164 := n0_; have HB := n1_; clear n0_ n1_; (try clear hb); (try clear hb2); (try clear hk); (try clear hi)) | ((with_reducible refine gate_dst (N := 21) rfl ?_); (try (refine gate_guard (by rfl) ?_; dsimp only)); refine Kd.R_lit (Kd.int .i64) _ 3 ?hg (N := 21) ?hd (xs := ([3] : List Int)) (inner := [.int .i64 3]) (ok := fun _ => True) (okp := fun _ => True) ?hr ?hp (fun _ hk => hk) trivial (Below.refl _ _) (Nat.le_refl _) (by simp) ?_; (case hd => rfl); (case hg => rfl); (case hr => first | (go_simp; done) | (go_simp; rfl)); (case hp => exact (Reps.one (show Kd.M (Kd.int .i64) _ _ _ 3 [.int .i64 3] from rfl) (Reps.none _ _))); intro v169 w75 ho76 hb hg_ hnew_; clear hg_ hnew_; (first | rw [← Ny168.out] at ho76 | (simp only [Int.reduceToNat] at ho76; rw [← Ny168.out] at ho76)); have n0_ := Aside0.mk (Kd.R_below (by (with_reducible repeat (first | apply Kd.R_alloc | apply Kd.R_drewN | apply Kd.R_drew)); exact HO164.out) hb); have n1_ := Aside0.mk (Kd.R_lower ho76 (below_size (by repeat (first | (with_reducible first | exact HB.out | apply below_alloc | apply pw_below_drewN | apply below_drew1) | exact HB.out)))); have n2_ := Aside0.mk (below_step (by repeat (first | (with_reducible first | exact HB.out | apply below_alloc | apply pw_below_drewN | apply below_drew1) | exact HB.out)) hb); clear HO164; clear HB; have HO164 := n0_; have HO170 := n1_; have HB := n2_; clear n0_ n1_ n2_; clear hb ho76; obtain ⟨Ao77, co77, eo77⟩ := Kd.R_slice HO170.out; subst eo77) | (go_at_call 42; (with_reducible refine (styluslaw19_broken.calls k (⟨#[98, 103, 98]⟩ : ByteArray) 100 _ _ y168 true _ ?side1 ?side2 A6.out).mono ?_); (case side1 => repeat (first | exact (Kd.R_reads' HO170.out).2.2 | (with_reducible refine Kd.C_alloc ?_ _) | (with_reducible refine Kd.C_drewN ?_ _) | (with_reducible refine Kd.C_drew ?_))); (case side2 => exact (Kd.R_reads' HO170.out).2.1); rintro e w78 ⟨rfl, hb⟩; have n0_ := Aside0.mk (Kd.R_below (by (with_reducible repeat (first | apply Kd.R_alloc | apply Kd.R_drewN | apply Kd.R_drew)); exact HO164.out) hb); have n1_ := Aside0.mk (Kd.R_below (by (with_reducible repeat (first | apply Kd.R_alloc | apply Kd.R_drewN | apply Kd.R_drew)); exact HO170.out) hb); have n2_ := Aside0.mk (below_step (by repeat (first | (with_reducible first | exact HB.out | apply below_alloc | apply pw_below_drewN | apply below_drew1) | exact HB.out)) hb); clear HO164; clear HO170; clear HB; have HO164 := n0_; have HO170 := n1_; have HB := n2_; clear n0_ n1_ n2_; (try clear hb); (try clear hb2); (try clear hk); (try clear hi)) | ((with_reducible refine gate_dst (N := 25) rfl ?_); (try (refine gate_guard (by rfl) ?_; dsimp only)); refine Kd.R_lit (Kd.int .i64) _ 3 ?hg (N := 25) ?hd (xs := ([3, 5] : List Int)) (inner := [.int .i64 3, .int .i64 5]) (ok := fun _ => True) (okp := fun _ => True) ?hr ?hp (fun _ hk => hk) trivial (Below.refl _ _) (Nat.le_refl _) (by simp) ?_; (case hd => rfl); (case hg => rfl); (case hr => first | (go_simp; done) | (go_simp; rfl)); (case hp => exact (Reps.one (show Kd.M (Kd.int .i64) _ _ _ 3 [.int .i64 3] from rfl) (Reps.one (show Kd.M (Kd.int .i64) _ _ _ 5 [.int .i64 5] from rfl) (Reps.none _ _)))); intro v173 w79 ho80 hb hg_ hnew_; clear hg_ hnew_; (first | rw [← Ny172.out] at ho80 | (simp only [Int.reduceToNat] at ho80; rw [← Ny172.out] at ho80)); have n0_ := Aside0.mk (Kd.R_below (by (with_reducible repeat (first | apply Kd.R_alloc | apply Kd.R_drewN | apply Kd.R_drew)); exact HO164.out) hb); have n1_ := Aside0.mk (Kd.R_elder' (by (with_reducible repeat (first | apply Kd.R_alloc | apply Kd.R_drewN | apply Kd.R_drew)); exact HO170.out) (Kd.R_base ho80) hb); have n2_ := Aside0.mk (Kd.R_lower (Kd.R_new' ho80 (Kd.R_lt (by (with_reducible repeat (first | apply Kd.R_alloc | apply Kd.R_drewN | apply Kd.R_drew)); exact HO170.out))) (below_size (by repeat (first | (with_reducible first | exact HB.out | apply below_alloc | apply pw_below_drewN | apply below_drew1) | exact HB.out)))); have n3_ := Aside0.mk (below_step (by repeat (first | (with_reducible first | exact HB.out | apply below_alloc | apply pw_below_drewN | apply below_drew1) | exact HB.out)) hb); clear HO164; clear HO170; clear HB; have HO164 := n0_; have HO170 := n1_; have HO174 := n2_; have HB := n3_; clear n0_ n1_ n2_ n3_; clear hb ho80; obtain ⟨Ao81, co81, eo81⟩ := Kd.R_slice HO174.out; subst eo81) | (go_at_call 42; (with_reducible refine (styluslaw19_broken.calls k (⟨#[98, 103, 98, 103, 98]⟩ : ByteArray) 200 _ _ y172 false _ ?side1 ?side2 A8.out).mono ?_); (case side1 => repeat (first | exact (Kd.R_reads' HO174.out).2.2 | (with_reducible refine Kd.C_alloc ?_ _) | (with_reducible refine Kd.C_drewN ?_ _) | (with_reducible refine Kd.C_drew ?_))); (case side2 => exact (Kd.R_reads' HO174.out).2.1); rintro e w82 ⟨rfl, hb⟩; have n0_ := Aside0.mk (Kd.R_below (by (with_reducible repeat (first | apply Kd.R_alloc | apply Kd.R_drewN | apply Kd.R_drew)); exact HO164.out) hb); have n1_ := Aside0.mk (Kd.R_below (by (with_reducible repeat (first | apply Kd.R_alloc | apply Kd.R_drewN | apply Kd.R_drew)); exact HO170.out) hb); have n2_ := Aside0.mk (Kd.R_below (by (with_reducible repeat (first | apply Kd.R_alloc | apply Kd.R_drewN | apply Kd.R_drew)); exact HO174.out) hb); have n3_ := Aside0.mk (below_step (by repeat (first | (with_reducible first | exact HB.out | apply below_alloc | apply pw_below_drewN | apply below_drew1) | exact HB.out)) hb); clear HO164; clear HO170; clear HO174; clear HB; have HO164 := n0_; have HO170 := n1_; have HO174 := n2_; have HB := n3_; clear n0_ n1_ n2_ n3_; (try clear hb); (try clear hb2); (try clear hk); (try clear hi)))
            go_ret
            exact ⟨by first | rfl | (simp [errW_none, errW_some] <;> rfl) | (simp [*, errW_none, errW_some] <;> rfl), by repeat (first | (with_reducible first | exact HB.out | apply below_alloc | apply pw_below_drewN | apply below_drew1) | exact HB.out)⟩
        · replace c7 := Bool.eq_false_iff.mpr c7
          subst c7
          have H1 : (some false) = some r := by rw [if_neg (show ¬ (false = true) by decide)] at H; exact H
          clear H
          have H := H1
          clear H1
          obtain rfl := Option.some.inj H
          go_enter Try.func12, Try.ntmps12
          go_wp2_with (first | ((with_reducible refine gate_callee (f := 41) rfl ?_); refine goesL_ (some 5) rfl rfl Try.func41 (by kernel_rfl) rfl #[.string (⟨#[98, 103, 98]⟩ : ByteArray)] rfl (by (try simp only [List.map_toArray, List.map_cons, List.map_nil]); first | done | rfl | (simp only [List.length_drop, List.length_take]; rfl)) ?_; (with_reducible refine (styluslaw19_of.calls k (⟨#[98, 103, 98]⟩ : ByteArray) t162 _ A1.out).mono ?_); rintro e w83 ⟨v163, rfl, ho0, hb⟩; refine ⟨_, rfl, ?_⟩; have n0_ := Aside0.mk (Kd.R_lower ho0 (below_size (by repeat (first | (with_reducible first | exact HB.out | apply below_alloc | apply pw_below_drewN | apply below_drew1) | exact HB.out)))); have n1_ := Aside0.mk (below_step (by repeat (first | (with_reducible first | exact HB.out | apply below_alloc | apply pw_below_drewN | apply below_drew1) | exact HB.out)) hb); clear HB; have HO164 := n0_; have HB := n1_; clear n0_ n1_; (try clear hb); (try clear hb2); (try clear hk); (try clear hi); (try clear ho0); obtain ⟨Ao84, co84, eo84⟩ := Kd.R_slice HO164.out; subst eo84) | ((with_reducible refine gate_callee (f := 19) rfl ?_); refine goesL_ (some 6) rfl rfl Try.func19 (by kernel_rfl) rfl #[.slice Ao84 t162.length co84, .int .i64 30, .int .i64 (-1), .int .i64 3] rfl (by (try simp only [List.map_toArray, List.map_cons, List.map_nil]); first | done | rfl | (simp only [List.length_drop, List.length_take]; rfl)) ?_; (with_reducible refine (best_Ratio.calls _ _ t162 30 (-1) 3 t165 t166 t167 _ ?side1 ?side2 A2.out).mono ?_); (case side1 => repeat (first | exact (Kd.R_reads' HO164.out).2.2 | (with_reducible refine Kd.C_alloc ?_ _) | (with_reducible refine Kd.C_drewN ?_ _) | (with_reducible refine Kd.C_drew ?_))); (case side2 => exact (Kd.R_reads' HO164.out).2.1); rintro e w85 ⟨rfl, hb⟩; refine ⟨_, rfl, ?_⟩; have n0_ := Aside0.mk (Kd.R_below (by (with_reducible repeat (first | apply Kd.R_alloc | apply Kd.R_drewN | apply Kd.R_drew)); exact HO164.out) hb); have n1_ := Aside0.mk (below_step (by repeat (first | (with_reducible first | exact HB.out | apply below_alloc | apply pw_below_drewN | apply below_drew1) | exact HB.out)) hb); clear HO164; clear HB; have HO164 := n0_; have HB := n1_; clear n0_ n1_; (try clear hb); (try clear hb2); (try clear hk); (try clear hi)) | ((with_reducible refine gate_dst (N := 21) rfl ?_); (try (refine gate_guard (by rfl) ?_; dsimp only)); refine Kd.R_lit (Kd.int .i64) _ 3 ?hg (N := 21) ?hd (xs := ([3] : List Int)) (inner := [.int .i64 3]) (ok := fun _ => True) (okp := fun _ => True) ?hr ?hp (fun _ hk => hk) trivial (Below.refl _ _) (Nat.le_refl _) (by simp) ?_; (case hd => rfl); (case hg => rfl); (case hr => first | (go_simp; done) | (go_simp; rfl)); (case hp => exact (Reps.one (show Kd.M (Kd.int .i64) _ _ _ 3 [.int .i64 3] from rfl) (Reps.none _ _))); intro v169 w86 ho87 hb hg_ hnew_; clear hg_ hnew_; (first | rw [← Ny168.out] at ho87 | (simp only [Int.reduceToNat] at ho87; rw [← Ny168.out] at ho87)); have n0_ := Aside0.mk (Kd.R_below (by (with_reducible repeat (first | apply Kd.R_alloc | apply Kd.R_drewN | apply Kd.R_drew)); exact HO164.out) hb); have n1_ := Aside0.mk (Kd.R_lower ho87 (below_size (by repeat (first | (with_reducible first | exact HB.out | apply below_alloc | apply pw_below_drewN | apply below_drew1) | exact HB.out)))); have n2_ := Aside0.mk (below_step (by repeat (first | (with_reducible first | exact HB.out | apply below_alloc | apply pw_below_drewN | apply below_drew1) | exact HB.out)) hb); clear HO164; clear HB; have HO164 := n0_; have HO170 := n1_; have HB := n2_; clear n0_ n1_ n2_; clear hb ho87; obtain ⟨Ao88, co88, eo88⟩ := Kd.R_slice HO170.out; subst eo88) | (go_at_call 42; (with_reducible refine (styluslaw19_broken.calls k (⟨#[98, 103, 98]⟩ : ByteArray) 100 _ _ y168 false _ ?side1 ?side2 A6.out).mono ?_); (case side1 => repeat (first | exact (Kd.R_reads' HO170.out).2.2 | (with_reducible refine Kd.C_alloc ?_ _) | (with_reducible refine Kd.C_drewN ?_ _) | (with_reducible refine Kd.C_drew ?_))); (case side2 => exact (Kd.R_reads' HO170.out).2.1); rintro e w89 ⟨rfl, hb⟩; have n0_ := Aside0.mk (Kd.R_below (by (with_reducible repeat (first | apply Kd.R_alloc | apply Kd.R_drewN | apply Kd.R_drew)); exact HO164.out) hb); have n1_ := Aside0.mk (Kd.R_below (by (with_reducible repeat (first | apply Kd.R_alloc | apply Kd.R_drewN | apply Kd.R_drew)); exact HO170.out) hb); have n2_ := Aside0.mk (below_step (by repeat (first | (with_reducible first | exact HB.out | apply below_alloc | apply pw_below_drewN | apply below_drew1) | exact HB.out)) hb); clear HO164; clear HO170; clear HB; have HO164 := n0_; have HO170 := n1_; have HB := n2_; clear n0_ n1_ n2_; (try clear hb); (try clear hb2); (try clear hk); (try clear hi)))
          go_ret
          exact ⟨by first | rfl | (simp [errW_none, errW_some] <;> rfl) | (simp [*, errW_none, errW_some] <;> rfl), by repeat (first | (with_reducible first | exact HB.out | apply below_alloc | apply pw_below_drewN | apply below_drew1) | exact HB.out)⟩
      · rw [if_neg c5] at H
        have c5b0 : (t167 == 0) = false := beq_eq_false_iff_ne.mpr c5
        have c5b1 : (t167 != 0) = true := bne_iff_ne.mpr c5
        obtain rfl := Option.some.inj H
        go_enter Try.func12, Try.ntmps12
        go_wp2_with (first | ((with_reducible refine gate_callee (f := 41) rfl ?_); refine goesL_ (some 5) rfl rfl Try.func41 (by kernel_rfl) rfl #[.string (⟨#[98, 103, 98]⟩ : ByteArray)] rfl (by (try simp only [List.map_toArray, List.map_cons, List.map_nil]); first | done | rfl | (simp only [List.length_drop, List.length_take]; rfl)) ?_; (with_reducible refine (styluslaw19_of.calls k (⟨#[98, 103, 98]⟩ : ByteArray) t162 _ A1.out).mono ?_); rintro e w90 ⟨v163, rfl, ho0, hb⟩; refine ⟨_, rfl, ?_⟩; have n0_ := Aside0.mk (Kd.R_lower ho0 (below_size (by repeat (first | (with_reducible first | exact HB.out | apply below_alloc | apply pw_below_drewN | apply below_drew1) | exact HB.out)))); have n1_ := Aside0.mk (below_step (by repeat (first | (with_reducible first | exact HB.out | apply below_alloc | apply pw_below_drewN | apply below_drew1) | exact HB.out)) hb); clear HB; have HO164 := n0_; have HB := n1_; clear n0_ n1_; (try clear hb); (try clear hb2); (try clear hk); (try clear hi); (try clear ho0); obtain ⟨Ao91, co91, eo91⟩ := Kd.R_slice HO164.out; subst eo91) | ((with_reducible refine gate_callee (f := 19) rfl ?_); refine goesL_ (some 6) rfl rfl Try.func19 (by kernel_rfl) rfl #[.slice Ao91 t162.length co91, .int .i64 30, .int .i64 (-1), .int .i64 3] rfl (by (try simp only [List.map_toArray, List.map_cons, List.map_nil]); first | done | rfl | (simp only [List.length_drop, List.length_take]; rfl)) ?_; (with_reducible refine (best_Ratio.calls _ _ t162 30 (-1) 3 t165 t166 t167 _ ?side1 ?side2 A2.out).mono ?_); (case side1 => repeat (first | exact (Kd.R_reads' HO164.out).2.2 | (with_reducible refine Kd.C_alloc ?_ _) | (with_reducible refine Kd.C_drewN ?_ _) | (with_reducible refine Kd.C_drew ?_))); (case side2 => exact (Kd.R_reads' HO164.out).2.1); rintro e w92 ⟨rfl, hb⟩; refine ⟨_, rfl, ?_⟩; have n0_ := Aside0.mk (Kd.R_below (by (with_reducible repeat (first | apply Kd.R_alloc | apply Kd.R_drewN | apply Kd.R_drew)); exact HO164.out) hb); have n1_ := Aside0.mk (below_step (by repeat (first | (with_reducible first | exact HB.out | apply below_alloc | apply pw_below_drewN | apply below_drew1) | exact HB.out)) hb); clear HO164; clear HB; have HO164 := n0_; have HB := n1_; clear n0_ n1_; (try clear hb); (try clear hb2); (try clear hk); (try clear hi)))
        go_ret
        exact ⟨by first | rfl | (simp [errW_none, errW_some] <;> rfl) | (simp [*, errW_none, errW_some] <;> rfl), by repeat (first | (with_reducible first | exact HB.out | apply below_alloc | apply pw_below_drewN | apply below_drew1) | exact HB.out)⟩
    · rw [if_neg c4] at H
      have c4b0 : (t166 == 0) = false := beq_eq_false_iff_ne.mpr c4
      have c4b1 : (t166 != 0) = true := bne_iff_ne.mpr c4
      obtain rfl := Option.some.inj H
      go_enter Try.func12, Try.ntmps12
      go_wp2_with (first | ((with_reducible refine gate_callee (f := 41) rfl ?_); refine goesL_ (some 5) rfl rfl Try.func41 (by kernel_rfl) rfl #[.string (⟨#[98, 103, 98]⟩ : ByteArray)] rfl (by (try simp only [List.map_toArray, List.map_cons, List.map_nil]); first | done | rfl | (simp only [List.length_drop, List.length_take]; rfl)) ?_; (with_reducible refine (styluslaw19_of.calls k (⟨#[98, 103, 98]⟩ : ByteArray) t162 _ A1.out).mono ?_); rintro e w93 ⟨v163, rfl, ho0, hb⟩; refine ⟨_, rfl, ?_⟩; have n0_ := Aside0.mk (Kd.R_lower ho0 (below_size (by repeat (first | (with_reducible first | exact HB.out | apply below_alloc | apply pw_below_drewN | apply below_drew1) | exact HB.out)))); have n1_ := Aside0.mk (below_step (by repeat (first | (with_reducible first | exact HB.out | apply below_alloc | apply pw_below_drewN | apply below_drew1) | exact HB.out)) hb); clear HB; have HO164 := n0_; have HB := n1_; clear n0_ n1_; (try clear hb); (try clear hb2); (try clear hk); (try clear hi); (try clear ho0); obtain ⟨Ao94, co94, eo94⟩ := Kd.R_slice HO164.out; subst eo94) | ((with_reducible refine gate_callee (f := 19) rfl ?_); refine goesL_ (some 6) rfl rfl Try.func19 (by kernel_rfl) rfl #[.slice Ao94 t162.length co94, .int .i64 30, .int .i64 (-1), .int .i64 3] rfl (by (try simp only [List.map_toArray, List.map_cons, List.map_nil]); first | done | rfl | (simp only [List.length_drop, List.length_take]; rfl)) ?_; (with_reducible refine (best_Ratio.calls _ _ t162 30 (-1) 3 t165 t166 t167 _ ?side1 ?side2 A2.out).mono ?_); (case side1 => repeat (first | exact (Kd.R_reads' HO164.out).2.2 | (with_reducible refine Kd.C_alloc ?_ _) | (with_reducible refine Kd.C_drewN ?_ _) | (with_reducible refine Kd.C_drew ?_))); (case side2 => exact (Kd.R_reads' HO164.out).2.1); rintro e w95 ⟨rfl, hb⟩; refine ⟨_, rfl, ?_⟩; have n0_ := Aside0.mk (Kd.R_below (by (with_reducible repeat (first | apply Kd.R_alloc | apply Kd.R_drewN | apply Kd.R_drew)); exact HO164.out) hb); have n1_ := Aside0.mk (below_step (by repeat (first | (with_reducible first | exact HB.out | apply below_alloc | apply pw_below_drewN | apply below_drew1) | exact HB.out)) hb); clear HO164; clear HB; have HO164 := n0_; have HB := n1_; clear n0_ n1_; (try clear hb); (try clear hb2); (try clear hk); (try clear hi)))
      go_ret
      exact ⟨by first | rfl | (simp [errW_none, errW_some] <;> rfl) | (simp [*, errW_none, errW_some] <;> rfl), by repeat (first | (with_reducible first | exact HB.out | apply below_alloc | apply pw_below_drewN | apply below_drew1) | exact HB.out)⟩
  · rw [if_neg c3] at H
    have c3b0 : (t165 == 30) = false := beq_eq_false_iff_ne.mpr c3
    have c3b1 : (t165 != 30) = true := bne_iff_ne.mpr c3
    obtain rfl := Option.some.inj H
    go_enter Try.func12, Try.ntmps12
    go_wp2_with (first | ((with_reducible refine gate_callee (f := 41) rfl ?_); refine goesL_ (some 5) rfl rfl Try.func41 (by kernel_rfl) rfl #[.string (⟨#[98, 103, 98]⟩ : ByteArray)] rfl (by (try simp only [List.map_toArray, List.map_cons, List.map_nil]); first | done | rfl | (simp only [List.length_drop, List.length_take]; rfl)) ?_; (with_reducible refine (styluslaw19_of.calls k (⟨#[98, 103, 98]⟩ : ByteArray) t162 _ A1.out).mono ?_); rintro e w96 ⟨v163, rfl, ho0, hb⟩; refine ⟨_, rfl, ?_⟩; have n0_ := Aside0.mk (Kd.R_lower ho0 (below_size (by repeat (first | (with_reducible first | exact HB.out | apply below_alloc | apply pw_below_drewN | apply below_drew1) | exact HB.out)))); have n1_ := Aside0.mk (below_step (by repeat (first | (with_reducible first | exact HB.out | apply below_alloc | apply pw_below_drewN | apply below_drew1) | exact HB.out)) hb); clear HB; have HO164 := n0_; have HB := n1_; clear n0_ n1_; (try clear hb); (try clear hb2); (try clear hk); (try clear hi); (try clear ho0); obtain ⟨Ao97, co97, eo97⟩ := Kd.R_slice HO164.out; subst eo97) | ((with_reducible refine gate_callee (f := 19) rfl ?_); refine goesL_ (some 6) rfl rfl Try.func19 (by kernel_rfl) rfl #[.slice Ao97 t162.length co97, .int .i64 30, .int .i64 (-1), .int .i64 3] rfl (by (try simp only [List.map_toArray, List.map_cons, List.map_nil]); first | done | rfl | (simp only [List.length_drop, List.length_take]; rfl)) ?_; (with_reducible refine (best_Ratio.calls _ _ t162 30 (-1) 3 t165 t166 t167 _ ?side1 ?side2 A2.out).mono ?_); (case side1 => repeat (first | exact (Kd.R_reads' HO164.out).2.2 | (with_reducible refine Kd.C_alloc ?_ _) | (with_reducible refine Kd.C_drewN ?_ _) | (with_reducible refine Kd.C_drew ?_))); (case side2 => exact (Kd.R_reads' HO164.out).2.1); rintro e w98 ⟨rfl, hb⟩; refine ⟨_, rfl, ?_⟩; have n0_ := Aside0.mk (Kd.R_below (by (with_reducible repeat (first | apply Kd.R_alloc | apply Kd.R_drewN | apply Kd.R_drew)); exact HO164.out) hb); have n1_ := Aside0.mk (below_step (by repeat (first | (with_reducible first | exact HB.out | apply below_alloc | apply pw_below_drewN | apply below_drew1) | exact HB.out)) hb); clear HO164; clear HB; have HO164 := n0_; have HB := n1_; clear n0_ n1_; (try clear hb); (try clear hb2); (try clear hk); (try clear hi)))
    go_ret
    exact ⟨by first | rfl | (simp [errW_none, errW_some] <;> rfl) | (simp [*, errW_none, errW_some] <;> rfl), by repeat (first | (with_reducible first | exact HB.out | apply below_alloc | apply pw_below_drewN | apply below_drew1) | exact HB.out)⟩

end Go.Proofs.Ytbddfnmhhmkfkaa.Pr
/- Walks of the Go functions of this seat, and the Lean functions that they come to: written by a program (mkprint.py over the kit's print). -/
namespace Go.Proofs.Ytbddfnmhhmkfkaa.Pr
open Go.RowKit Go.Proofs.YtbddfnmhhmkfkaaW.PrintWords Go.Proofs.YtbddfnmhhmkfkaaW.PrintLast Go.Proofs.YtbddfnmhhmkfkaaW.PrintMore
attribute [local go_sem] max2_int min2_int max_two min_two max_three min_three max_four min_four   -- for this text's walks alone
set_option linter.unusedVariables false
set_option linter.unusedSimpArgs false

theorem eqA43 (d : Nat) (w : World) (x0 y0 : Int) (x1 y1 : Int) (x2 y2 : Int) (x3 y3 : Int) (x4 y4 : Int) :
    (Op.equalIn (d + 2) 43 (.agg #[.int .i64 x0, .int .i64 x1, .int .i64 x2, .int .i64 x3, .int .i64 x4]) (.agg #[.int .i64 y0, .int .i64 y1, .int .i64 y2, .int .i64 y3, .int .i64 y4])).run Try.prog w = .ok (x0 == y0 && (x1 == y1 && (x2 == y2 && (x3 == y3 && (x4 == y4))))) w := by
  refine eqA_of Try.underlying43 (by kernel_rfl) ?_
  refine eqf_cons (by rfl) (by go_simp; rfl) (by go_simp; rfl) (by go_simp) ?_
  refine eqf_cons (by rfl) (by go_simp; rfl) (by go_simp; rfl) (by go_simp) ?_
  refine eqf_cons (by rfl) (by go_simp; rfl) (by go_simp; rfl) (by go_simp) ?_
  refine eqf_cons (by rfl) (by go_simp; rfl) (by go_simp; rfl) (by go_simp) ?_
  exact eqf_last (by rfl) (by go_simp; rfl) (by go_simp; rfl) (by go_simp)
end Go.Proofs.Ytbddfnmhhmkfkaa.Pr
/- Walks of the Go functions of this seat, and the Lean functions that they come to: written by a program (mkprint.py over the kit's print). -/
namespace Go.Proofs.Ytbddfnmhhmkfkaa.Pr
open Go.RowKit Go.Proofs.YtbddfnmhhmkfkaaW.PrintWords Go.Proofs.YtbddfnmhhmkfkaaW.PrintLast Go.Proofs.YtbddfnmhhmkfkaaW.PrintMore
attribute [local go_sem] max2_int min2_int max_two min_two max_three min_three max_four min_four   -- for this text's walks alone
set_option linter.unusedVariables false
set_option linter.unusedSimpArgs false

attribute [local go_sem high] eqA43
/-! ### styluslaw19_kept: function 18 -/
def styluslaw19_kept.l0 : Nat → List (S43) → List (S43) → Int → Option (Bool)
  | 0, _, _, _ => none
  | k + 1, x0, x1, x5 => if x5 < (x1.length : Int) then (if 0 ≤ x5 then (if x5 < (x0.length : Int) then (if (!(((rd_T43 x0 x5).f0) == ((rd_T43 x1 x5).f0)) || (!(((rd_T43 x0 x5).f1) == ((rd_T43 x1 x5).f1)) || (!(((rd_T43 x0 x5).f2) == ((rd_T43 x1 x5).f2)) || (!(((rd_T43 x0 x5).f3) == ((rd_T43 x1 x5).f3)) || (!(((rd_T43 x0 x5).f4) == ((rd_T43 x1 x5).f4))))))) = true then (some false) else (styluslaw19_kept.l0 k x0 x1 (wrap64 (x5 + 1)))) else (none)) else (none)) else (some ((x0.length : Int) == (x1.length : Int)))
def styluslaw19_kept.f (k : Nat) (l0 : List (S43)) (l1 : List (S43)) : Option (Bool) := styluslaw19_kept.l0 k l0 l1 0
theorem styluslaw19_kept.mono_l : ∀ k, (∀ y0 y1 y2, LeO (styluslaw19_kept.l0 k y0 y1 y2) (styluslaw19_kept.l0 (k + 1) y0 y1 y2))
  | 0 => fun _ _ _ r h => by simp [styluslaw19_kept.l0] at h
  | k + 1 => by
    have ih0 := styluslaw19_kept.mono_l k
    · intro y0 y1 y2
      unfold styluslaw19_kept.l0
      repeat' first
      | (with_reducible exact ih0 _ _ _)
      | (with_reducible exact LeO.refl _)
      | (with_reducible exact LeO.none _)
      | (with_reducible refine LeO.ite ?_ ?_)
      | (with_reducible refine LeO.bind ?_ (fun _ => ?_))
      | exact ih0 _ _ _
      | exact LeO.none _
      | refine LeO.ite ?_ ?_
      | refine LeO.bind ?_ (fun _ => ?_)
theorem styluslaw19_kept.mono : ∀ a0 a1 k, LeO (styluslaw19_kept.f k a0 a1) (styluslaw19_kept.f (k + 1) a0 a1) := by
  intro a0 a1 k
  have ih0 := styluslaw19_kept.mono_l k
  unfold styluslaw19_kept.f
  repeat' first
      | (with_reducible exact ih0 _ _ _)
      | (with_reducible exact LeO.refl _)
      | (with_reducible exact LeO.none _)
      | (with_reducible refine LeO.ite ?_ ?_)
      | (with_reducible refine LeO.bind ?_ (fun _ => ?_))
      | exact ih0 _ _ _
      | exact LeO.none _
      | refine LeO.ite ?_ ?_
      | refine LeO.bind ?_ (fun _ => ?_)
set_option maxHeartbeats 8000000 in
set_option maxRecDepth 100000 in
theorem styluslaw19_kept.calls (k : Nat) (A0 : Option Addr) (c0 : Nat) (l0 : List (S43)) (A1 : Option Addr) (c1 : Nat) (l1 : List (S43)) (r : Bool) (w : World) (hr0 : Kd.C k43 w A0 l0.length l0) (hc0 : l0.length ≤ c0) (hr1 : Kd.C k43 w A1 l1.length l1) (hc1 : l1.length ≤ c1) (h : styluslaw19_kept.f k l0 l1 = some r) :
    Calls Try.prog 18 #[.slice A0 l0.length c0, .slice A1 l1.length c1] w fun e w' => e = .returned (.bool r) ∧ Drawn0 w w' := by
  have hu43 := Try.underlying43
  have HR0 := Aside0.mk hr0
  have HC0 := Aside0.mk hc0
  clear hr0 hc0
  have HR1 := Aside0.mk hr1
  have HC1 := Aside0.mk hc1
  clear hr1 hc1
  have H : (styluslaw19_kept.l0 k l0 l1 0) = some r := h
  clear h
  have H' := Aside0.mk H
  clear H
  go_enter Try.func18, Try.ntmps18
  go_wp2
  repeat (go_quiet (fail); try go_wp2)
  go_loopg [5] k (fun kq v5 w' => ∃ (x5_1 : Int), v5 = .int .i64 x5_1 ∧ Aside0 (styluslaw19_kept.l0 kq l0 l1 x5_1 = some r) ∧ Aside0 (kq ≤ k) ∧ Drawn0 w w')
  case atStart => exact ⟨(0), (by first | rfl | (simp; done) | (simp [*]; done)), H', ⟨Nat.le_refl _⟩, by repeat (first | exact Drawn0.refl _ | apply Drawn0.step)⟩
  case round =>
    clear H'
    try clear c1
    try clear p2
    obtain ⟨x5_1, rfl, HA, HK1, ⟨m1, rfl⟩⟩ := hrel
    cases gk with
    | zero => exact absurd HA.out (by simp [styluslaw19_kept.l0])
    | succ k1 =>
      have H := HA.out
      clear HA
      simp only [styluslaw19_kept.l0] at H
      by_cases c3 : x5_1 < (l1.length : Int)
      · rw [if_pos c3] at H
        have c3b0 : decide (x5_1 < (l1.length : Int)) = true := decide_eq_true c3
        clear c3
        by_cases c4 : 0 ≤ x5_1
        · rw [if_pos c4] at H
          have c4b0 : decide (0 ≤ x5_1) = true := decide_eq_true c4
          clear c4
          by_cases c5 : x5_1 < (l0.length : Int)
          · rw [if_pos c5] at H
            have c5b0 : decide (x5_1 < (l0.length : Int)) = true := decide_eq_true c5
            clear c5
            by_cases c6 : (!(((rd_T43 l0 x5_1).f0) == ((rd_T43 l1 x5_1).f0)) || (!(((rd_T43 l0 x5_1).f1) == ((rd_T43 l1 x5_1).f1)) || (!(((rd_T43 l0 x5_1).f2) == ((rd_T43 l1 x5_1).f2)) || (!(((rd_T43 l0 x5_1).f3) == ((rd_T43 l1 x5_1).f3)) || (!(((rd_T43 l0 x5_1).f4) == ((rd_T43 l1 x5_1).f4))))))) = true
            · rw [if_pos c6] at H
              have c6b0 : (!(((rd_T43 l0 x5_1).f0) == ((rd_T43 l1 x5_1).f0)) || (!(((rd_T43 l0 x5_1).f1) == ((rd_T43 l1 x5_1).f1)) || (!(((rd_T43 l0 x5_1).f2) == ((rd_T43 l1 x5_1).f2)) || (!(((rd_T43 l0 x5_1).f3) == ((rd_T43 l1 x5_1).f3)) || (!(((rd_T43 l0 x5_1).f4) == ((rd_T43 l1 x5_1).f4))))))) = true := c6
              clear c6
              obtain rfl := Option.some.inj H
              have p238 : 0 ≤ (x5_1 : Int) := of_decide_eq_true (by first | (with_reducible assumption) | assumption)
              have q238 : x5_1 < (l0.length : Int) := of_decide_eq_true (by first | (with_reducible assumption) | assumption)
              obtain ⟨ad238, e238, hx238_0, hx238_1, hx238_2, hx238_3, hx238_4⟩ := at_T43 HR0.out x5_1 p238 q238
              cases e238
              replace p238 := eq_true p238
              replace q238 := eq_true q238
              have p239 : 0 ≤ (x5_1 : Int) := of_decide_eq_true (by first | (with_reducible assumption) | assumption)
              have q239 : x5_1 < (l1.length : Int) := of_decide_eq_true (by first | (with_reducible assumption) | assumption)
              obtain ⟨ad239, e239, hx239_0, hx239_1, hx239_2, hx239_3, hx239_4⟩ := at_T43 HR1.out x5_1 p239 q239
              cases e239
              replace p239 := eq_true p239
              replace q239 := eq_true q239
              go_wp2
              repeat (go_quiet (fail); try go_wp2)
              go_ret
              exact ⟨by first | rfl | (simp; done) | (simp [*]; done), by repeat (first | exact Drawn0.refl _ | apply Drawn0.step)⟩
            · rw [if_neg c6] at H
              have c6b0 : (!(((rd_T43 l0 x5_1).f0) == ((rd_T43 l1 x5_1).f0)) || (!(((rd_T43 l0 x5_1).f1) == ((rd_T43 l1 x5_1).f1)) || (!(((rd_T43 l0 x5_1).f2) == ((rd_T43 l1 x5_1).f2)) || (!(((rd_T43 l0 x5_1).f3) == ((rd_T43 l1 x5_1).f3)) || (!(((rd_T43 l0 x5_1).f4) == ((rd_T43 l1 x5_1).f4))))))) = false := by simpa using c6
              clear c6
              have H' := Aside0.mk H
              clear H
              have p238 : 0 ≤ (x5_1 : Int) := of_decide_eq_true (by first | (with_reducible assumption) | assumption)
              have q238 : x5_1 < (l0.length : Int) := of_decide_eq_true (by first | (with_reducible assumption) | assumption)
              obtain ⟨ad238, e238, hx238_0, hx238_1, hx238_2, hx238_3, hx238_4⟩ := at_T43 HR0.out x5_1 p238 q238
              cases e238
              replace p238 := eq_true p238
              replace q238 := eq_true q238
              have p239 : 0 ≤ (x5_1 : Int) := of_decide_eq_true (by first | (with_reducible assumption) | assumption)
              have q239 : x5_1 < (l1.length : Int) := of_decide_eq_true (by first | (with_reducible assumption) | assumption)
              obtain ⟨ad239, e239, hx239_0, hx239_1, hx239_2, hx239_3, hx239_4⟩ := at_T43 HR1.out x5_1 p239 q239
              cases e239
              replace p239 := eq_true p239
              replace q239 := eq_true q239
              go_wp2
              repeat (go_quiet (fail); try go_wp2)
              go_roundg k1
              case measure => have := HK1.out; omega
              case rel => exact ⟨(wrap64 (x5_1 + 1)), (by first | rfl | (simp; done) | (simp [*]; done)), H', ⟨by have := HK1.out; omega⟩, by repeat (first | exact Drawn0.refl _ | apply Drawn0.step)⟩
          · rw [if_neg c5] at H
            exact absurd H (by simp)
        · rw [if_neg c4] at H
          exact absurd H (by simp)
      · rw [if_neg c3] at H
        have c3b0 : decide (x5_1 < (l1.length : Int)) = false := decide_eq_false c3
        clear c3
        obtain rfl := Option.some.inj H
        go_wp2
        repeat (go_quiet (fail); try go_wp2)
        go_ret
        exact ⟨by first | rfl | (simp; done) | (simp [*]; done), by repeat (first | exact Drawn0.refl _ | apply Drawn0.step)⟩

end Go.Proofs.Ytbddfnmhhmkfkaa.Pr
/- What the laws of package best share: awake, kept, same. -/
namespace Go.Proofs.Ytbddfnmhhmkfkaa.Pr
set_option linter.unusedVariables false
set_option linter.unusedSimpArgs false
open Go.RowKit Go.Proofs.YtbddfnmhhmkfkaaW.PrintWords Go.Proofs.YtbddfnmhhmkfkaaW.PrintLast Go.Proofs.YtbddfnmhhmkfkaaW.PrintMore
theorem awake19 : styluslaw19_awake.f 40 = some true := by decide +kernel
theorem awake_ev : Ev (fun k => (styluslaw19_awake.f k).bind fun t => some t) true := Ev.bind (Ev.of styluslaw19_awake.mono awake19) (Ev.now _)
theorem kept_l0 (l : List S43) (hl : l.length ≤ 1000000) : ∀ (d i : Nat), i + d = l.length → Ev (fun k => styluslaw19_kept.l0 k l l i) true
  | 0, i, h => by
    refine Ev.step (f := fun _ => some true) (fun k => ?_) (Ev.now _)
    rw [styluslaw19_kept.l0.eq_2, if_neg (by omega)]
    simp
  | d + 1, i, h => by
    have ih := kept_l0 l hl d (i + 1) (by omega)
    have c1 : (i : Int) < l.length := by omega
    have c2 : (0 : Int) ≤ i := by omega
    have e : wrap64 ((i : Int) + 1) = ((i + 1 : Nat) : Int) := by rw [w64 (by omega) (by omega)]; omega
    refine Ev.step (fun k => ?_) ih
    rw [styluslaw19_kept.l0.eq_2, if_pos c1, if_pos c2, if_pos c1, if_neg (by simp), e]
theorem kept_ev (l : List S43) (hl : l.length ≤ 1000000) : Ev (fun k => styluslaw19_kept.f k l l) true := by
  have := kept_l0 l hl l.length 0 (by omega)
  unfold styluslaw19_kept.f
  simpa using this
theorem same_l0 (a b : List Int) (hlen : a.length = b.length) (hl : a.length ≤ 1000000) : ∀ (d i : Nat), i + d = a.length → Ev (fun k => styluslaw19_same.l0 k a b i) (decide (a.drop i = b.drop i))
  | 0, i, h => by
    refine Ev.step (f := fun _ => some true) (fun k => ?_) ?_
    · rw [styluslaw19_same.l0.eq_2, if_neg (by omega)]
    · rw [List.drop_of_length_le (by omega), List.drop_of_length_le (by omega)]
      exact Ev.now _
  | d + 1, i, h => by
    have ih := same_l0 a b hlen hl d (i + 1) (by omega)
    have c1 : (i : Int) < a.length := by omega
    have c2 : (0 : Int) ≤ i := by omega
    have c3 : (i : Int) < b.length := by omega
    have e : wrap64 ((i : Int) + 1) = ((i + 1 : Nat) : Int) := by rw [w64 (by omega) (by omega)]; omega
    rw [rd_drop (bs := a) (by omega), rd_drop (bs := b) (by omega)]
    by_cases hr : rd a i = rd b i
    · have : decide (rd a i :: a.drop (i + 1) = rd b i :: b.drop (i + 1)) = decide (a.drop (i + 1) = b.drop (i + 1)) := by rw [hr]; simp
      rw [this]
      refine Ev.step (fun k => ?_) ih
      rw [styluslaw19_same.l0.eq_2, if_pos c1, if_pos c2, if_pos c3, if_pos hr, e]
    · have : decide (rd a i :: a.drop (i + 1) = rd b i :: b.drop (i + 1)) = false := by simp [hr]
      rw [this]
      refine Ev.step (f := fun _ => some false) (fun k => ?_) (Ev.now _)
      rw [styluslaw19_same.l0.eq_2, if_pos c1, if_pos c2, if_pos c3, if_neg hr]
theorem same_ev (a b : List Int) (hl : a.length ≤ 1000000) : Ev (fun k => styluslaw19_same.f k a b) (decide (a = b)) := by
  unfold styluslaw19_same.f
  by_cases h : a.length = b.length
  · have := same_l0 a b h hl a.length 0 (by omega)
    simp only [if_pos (show (a.length : Int) = b.length by omega)]
    simpa using this
  · have e : decide (a = b) = false := by
      rw [decide_eq_false_iff_not]
      intro e
      exact h (by rw [e])
    simp only [if_neg (show ¬ (a.length : Int) = b.length by omega)]
    rw [e]
    exact Ev.now _
end Go.Proofs.Ytbddfnmhhmkfkaa.Pr
/- best.Of, as the laws meet it. -/
namespace Go.Proofs.Ytbddfnmhhmkfkaa.Pr
set_option linter.unusedVariables false
set_option linter.unusedSimpArgs false
open Go.RowKit Go.Proofs.YtbddfnmhhmkfkaaW.PrintWords Go.Proofs.YtbddfnmhhmkfkaaW.PrintLast Go.Proofs.YtbddfnmhhmkfkaaW.PrintMore
theorem of_f {l : List S43} (h : l.length ≤ 1000000) (w : Int) : best_Of.f l w = some (ofP l w) := if_pos h
theorem of_len (l : List S43) (w : Int) : (ofP l w).1.length ≤ l.length + 1 := by
  unfold ofP
  split
  · rename_i hk
    obtain ⟨s, _, hh, hb⟩ := best_row (check_ok hk)
    have := row_len l _ hb.1
    simp only [List.length_reverse]
    omega
  · simp
end Go.Proofs.Ytbddfnmhhmkfkaa.Pr
/- Walks of the Go functions of this seat, and the Lean functions that they come to: written by a program (mkprint.py over the kit's print). -/
namespace Go.Proofs.Ytbddfnmhhmkfkaa.Pr
open Go.RowKit Go.Proofs.YtbddfnmhhmkfkaaW.PrintWords Go.Proofs.YtbddfnmhhmkfkaaW.PrintLast Go.Proofs.YtbddfnmhhmkfkaaW.PrintMore
attribute [local go_sem] max2_int min2_int max_two min_two max_three min_three max_four min_four   -- for this text's walks alone
set_option linter.unusedVariables false
set_option linter.unusedSimpArgs false

/-! ### styluslaw19_over: function 24 -/
def styluslaw19_over.f (a0 : Int) : Option (Int) := some (wrap64 (Int.tdiv a0 1000000000000))
set_option maxHeartbeats 8000000 in
set_option maxRecDepth 100000 in
theorem styluslaw19_over.calls (a0 : Int) (r : Int) (w : World) (h : styluslaw19_over.f a0 = some r) :
    Calls Try.prog 24 #[.int .i64 a0] w fun e w' => e = .returned (.int .i64 r) ∧ Drawn0 w w' := by
  have H : (some (wrap64 (Int.tdiv a0 1000000000000))) = some r := h
  clear h
  obtain rfl := Option.some.inj H
  go_enter Try.func24, Try.ntmps24
  go_wp2
  go_ret
  exact ⟨by first | rfl | (simp; done) | (simp [*]; done), by repeat (first | exact Drawn0.refl _ | apply Drawn0.step)⟩

end Go.Proofs.Ytbddfnmhhmkfkaa.Pr
