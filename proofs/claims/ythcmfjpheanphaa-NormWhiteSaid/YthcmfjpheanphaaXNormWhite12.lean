/- Texts of this seat, one behind the other. -/
import Derived.Laws.BytesArg
import Derived.Maps.AppendAt
import Derived.Deep.QuietTactic
import Derived.BigQuiet
import Derived.WalkKit
import Derived.Test.YthcmfjpheanphaaXNormWhite1
import Derived.Test.YthcmfjpheanphaaXNormWhite2
import Derived.Test.YthcmfjpheanphaaXNormWhite3
import Derived.Test.YthcmfjpheanphaaXNormWhite4
import Derived.Test.YthcmfjpheanphaaXNormWhite5
import Derived.Test.YthcmfjpheanphaaXNormWhite6
import Derived.Test.YthcmfjpheanphaaXNormWhite7
import Derived.Test.YthcmfjpheanphaaXNormWhite8
import Derived.Test.YthcmfjpheanphaaXNormWhite9
import Derived.Test.YthcmfjpheanphaaXNormWhite10
import Derived.Test.YthcmfjpheanphaaXNormWhite11
set_option linter.unusedVariables false
set_option linter.unusedSimpArgs false
namespace Go.Proofs.Ythcmfjpheanphaa.Pr
open Go.RowKit Go.Proofs.YthcmfjpheanphaaW.PrintWords
def fixN (t : List S56) (i : Nat) (L : List (Nat × Int)) (y : S56) : S56 := ⟨y.f0, strOfNums (byL L), hdF2 y.f2 (rd_T56 t i).f2 L, y.f3⟩
theorem fix_step (t : List S56) (i : Nat) (out : List S56) (L : List (Nat × Int)) : (outLn t i out L).modify i (tx (strOfNums (byL L))) = out.modify i (fixN t i L) := by
 refine List.ext_getElem? fun k => ?_
 cases L with
 | nil =>
  simp only [outLn, List.getElem?_modify]
  cases out[k]? with
  | none => rfl
  | some y => by_cases e : i = k <;> simp [e, fixN, tx, hdF2]
 | cons x L =>
  simp only [outLn, List.getElem?_modify]
  cases out[k]? with
  | none => rfl
  | some y => by_cases e : i = k <;> simp [e, fixN, tx, hdF2, atF]
def outN (t : List S56) (i : Nat) : List S56 := t.mapIdx fun j y => if y.f0 = 46 ∧ j < i then fixN t j (Lk t j) y else y
theorem outN_len (t : List S56) (i : Nat) : (outN t i).length = t.length := by simp [outN]
def nodeK (L : List S184) : Int := match L.getLast? with | some p => p.f1 | none => 0
theorem nodeK_tag (W : List S184) (i : Nat) (L : List (Nat × Int)) : nodeK (W ++ tagL i L) = atL (nodeK W) i L := by
 rcases List.eq_nil_or_concat L with rfl | ⟨D, x, rfl⟩
 ·simp [tagL, atL]
 ·rw [List.concat_eq_append]
  unfold nodeK atL tagL
  simp
theorem sayK_tag (W : List S184) (i : Nat) (L : List (Nat × Int)) : sayK 0 (W ++ tagL i L) = sayL (sayK 0 W) L := by
 rcases List.eq_nil_or_concat L with rfl | ⟨D, x, rfl⟩
 ·simp [tagL, sayL]
 ·rw [List.concat_eq_append]
  unfold sayK sayL tagL
  simp
structure InvN (t : List S56) (i : Nat) (s : SqS) : Prop where
 out : s.out = outN t i
 say : ∀ j : Nat, (s.F j).getD (0, 0) = (sayK 0 (Wk t j i), nodeK (Wk t j i))
def owR (t : List S56) : List Int := (List.range t.length).map (ow t)
theorem ow_fo (t : List S56) (i : Nat) (h : 0 ≤ flow t i) : ow t i = (fo t i : Int) := by
 unfold ow fo
 rw [if_neg (by omega)]
 omega
theorem inF_fo {t : List S56} {i : Nat} (h : 0 ≤ flow t i) (hT : isT t i = true) : inF t (fo t i) i = true := by
 unfold inF fo
 rw [hT, Bool.true_and, decide_eq_true_eq]
 omega
theorem inv_node (t : List S56) (h : Txt t) (i : Nat) (hi : i < t.length) (s : SqS) (hs : InvN t i s) : InvN t (i + 1) (sqNode (owR t) t i s) := by
 have hrd := rd_get t i hi
 unfold sqNode
 by_cases h46 : (rd_T56 t i).f0 = 46
 ·rw [if_pos h46]
  have hT : isT t i = true := by unfold isT; rw [h46]; rfl
  have hfl := h.home i hi hT
  have hO : rd (owR t) (i : Int) = (fo t i : Int) := by
   unfold owR
   rw [rd_ow t i hi, ow_fo t i hfl]
  rw [hO, hs.say (fo t i)]
  show InvN t (i + 1) ⟨(outLn t i s.out (Lk t i)).modify i (tx (strOfNums (byL (Lk t i)))), upF s.F (fo t i : Int) (sayL (sayK 0 (Wk t (fo t i) i)) (Lk t i), atL (nodeK (Wk t (fo t i) i)) i (Lk t i))⟩
  refine ⟨?_, fun j => ?_⟩
  ·show (outLn t i s.out (Lk t i)).modify i (tx (strOfNums (byL (Lk t i)))) = _
   rw [fix_step, hs.out]
   refine List.ext_getElem (by simp [outN]) fun x hx hx' => ?_
   rw [List.getElem_modify]
   simp only [outN, List.getElem_mapIdx]
   by_cases e : i = x
   ·subst e
    rw [if_pos rfl, if_neg (fun h => Nat.lt_irrefl _ h.2), if_pos ⟨by rw [← hrd]; exact h46, by omega⟩]
   ·rw [if_neg e]
    by_cases hc : (t[x]'(by rw [outN_len] at hx'; exact hx')).f0 = 46 ∧ x < i
    ·rw [if_pos hc, if_pos ⟨hc.1, by omega⟩]
    ·rw [if_neg hc, if_neg (fun h => hc ⟨h.1, by omega⟩)]
  ·show (upF s.F (fo t i : Int) _ (j : Int)).getD (0, 0) = _
   unfold upF
   rw [Wk_succ]
   by_cases e : j = fo t i
   ·subst e
    rw [if_pos rfl, if_pos (inF_fo hfl hT), sayK_tag, nodeK_tag]
    rfl
   ·have hn : inF t j i = false := by
     cases hq : inF t j i with
     | false => rfl
     | true => exact absurd (fo_in hq).symm e
    rw [if_neg (by omega), hn, if_neg (by decide), List.append_nil]
    exact hs.say j
 ·rw [if_neg h46]
  refine ⟨?_, fun j => ?_⟩
  ·rw [hs.out]
   refine List.ext_getElem (by simp [outN]) fun x hx hx' => ?_
   simp only [outN, List.getElem_mapIdx]
   by_cases hc : (t[x]'(by rw [outN_len] at hx'; exact hx')).f0 = 46 ∧ x < i
   ·rw [if_pos hc, if_pos ⟨hc.1, by omega⟩]
   ·rw [if_neg hc, if_neg (fun h => ?_)]
    refine hc ⟨h.1, ?_⟩
    refine Nat.lt_of_le_of_ne (by omega) fun e => ?_
    subst e
    exact h46 (by rw [hrd]; exact h.1)
  ·have hn : inF t j i = false := by
    cases hq : inF t j i with
    | false => rfl
    | true =>
     have := (inF_in hq).1
     unfold isT at this
     exact absurd (beq_iff_eq.1 this) h46
   rw [Wk_succ, hn, if_neg (by decide), List.append_nil]
   exact hs.say j
theorem inv_run (t : List S56) (h : Txt t) : ∀ (d i : Nat) (s : SqS), d + i = t.length → InvN t i s → InvN t t.length (sqRun (owR t) t d i s)
 | 0, i, s, hi, hs => by
  obtain rfl : i = t.length := by omega
  exact hs
 | d + 1, i, s, hi, hs => inv_run t h d (i + 1) _ (by omega) (inv_node t h i (by omega) s hs)
theorem inv_0 (t : List S56) : InvN t 0 (sq0 t) where
 out := by
  refine List.ext_getElem (by simp [outN, sq0]) fun x hx hx' => ?_
  simp only [outN, List.getElem_mapIdx]
  rw [if_neg (fun h => Nat.not_lt_zero _ h.2)]
  rfl
 say := fun j => rfl
def sqN (t : List S56) (j : Nat) (y : S56) : S56 := ⟨y.f0, strOfNums (byL (Mk t j)), hdF2 y.f2 (rd_T56 t j).f2 (Lk t j), y.f3⟩
def sqF (t : List S56) : List S56 := t.mapIdx fun j y => if y.f0 = 46 then sqN t j y else y
theorem sqF_len (t : List S56) : (sqF t).length = t.length := by simp [sqF]
theorem ends_last {t : List S56} {x : Nat} (hxt : x < t.length) (hx : inF t (fo t x) x = true) (he : endsB t x = true) : ∃ D k, Lk t x = D ++ [(k, 32)] := by
 unfold endsB at he
 split at he
 ·rename_i p hp
  rw [Bool.and_eq_true, decide_eq_true_eq, decide_eq_true_eq] at he
  obtain ⟨B, hW, hB⟩ := Wk_split t (fo t x) x hx (t.length - (x + 1))
  rw [show x + 1 + (t.length - (x + 1)) = t.length from by omega] at hW
  rcases List.eq_nil_or_concat B with rfl | ⟨B', b, rfl⟩
  ·rw [List.append_nil] at hW
   rcases List.eq_nil_or_concat (Lk t x) with hL | ⟨D, y, hL⟩
   ·rw [hW, hL] at hp
    have hm := List.mem_of_getLast? hp
    obtain ⟨q, h1, h2, _⟩ := Wk_mem t (fo t x) x p (by simpa [tagL] using hm)
    omega
   ·rw [List.concat_eq_append] at hL
    rw [hW, hL] at hp
    have : p = ⟨y.2, x, y.1⟩ := by simpa [tagL] using hp.symm
    subst this
    obtain ⟨k, c⟩ := y
    obtain rfl : c = 32 := he.1
    exact ⟨D, k, hL⟩
  ·rw [List.concat_eq_append] at hW hB
   rw [hW] at hp
   have : p = b := by simpa using hp.symm
   subst this
   obtain ⟨q, h1, h2⟩ := hB p (by simp)
   omega
 ·cases he
theorem byL_app (A B : List (Nat × Int)) : byL (A ++ B) = byL A ++ byL B := by simp [byL]
theorem trimT_str (D : List Int) : trimT (strOfNums (D ++ [32])) = strOfNums D := by
 have hs : (strOfNums (D ++ [32])).size = D.length + 1 := by rw [strN_size]; simp
 have hd : (strOfNums D).size = D.length := strN_size D
 have e : strOfNums (D ++ [32]) = strOfNums D ++ ⟨#[32]⟩ := strN_app D [32]
 unfold trimT
 rw [if_pos (by omega), hs, Nat.add_sub_cancel]
 have h1 : (strOfNums (D ++ [32])).extract D.length (D.length + 1) = ⟨#[32]⟩ := by
  rw [e]
  refine ByteArray.ext ?_
  have hd2 : (strOfNums D).data.size = D.length := hd
  rw [ByteArray.data_extract, ByteArray.data_append, Array.extract_append, hd2, Array.extract_empty_of_size_le_start (by omega)]
  simp
 have h2 : (strOfNums (D ++ [32])).extract 0 D.length = strOfNums D := by
  rw [e]
  refine ByteArray.ext ?_
  have hd2 : (strOfNums D).data.size = D.length := hd
  rw [ByteArray.data_extract, ByteArray.data_append, Array.extract_append, hd2]
  simp [← hd2]
 rw [h1, if_pos (by simp), h2]
theorem squeeze_eq (t : List S56) (h : Txt t) : squeezeP (owR t) t = sqF t := by
 have hI := inv_run t h t.length 0 (sq0 t) (by omega) (inv_0 t)
 unfold squeezeP trimsP
 generalize sqRun (owR t) t t.length 0 (sq0 t) = s at hI
 rw [hI.out]
 refine List.ext_getElem (by simp [outN, sqF]) fun x hx hx' => ?_
 have hxt : x < t.length := by rw [sqF_len] at hx'; exact hx'
 have hO : rd (owR t) (x : Int) = ow t x := rd_ow t x hxt
 have hxo : x < (outN t t.length).length := by rw [outN_len]; exact hxt
 have hoN : (outN t t.length)[x] = if t[x].f0 = 46 ∧ x < t.length then fixN t x (Lk t x) t[x] else t[x] := by simp only [outN, List.getElem_mapIdx]
 have hsq : (sqF t)[x] = if t[x].f0 = 46 then sqN t x t[x] else t[x] := by simp only [sqF, List.getElem_mapIdx]
 refine List.getElem_mapIdx.trans ?_
 rw [hoN, hsq, hO]
 clear hoN hsq
 have hfac : ∀ j : Nat, s.F j = some (32, (x : Int)) ↔ ∃ p, (Wk t j t.length).getLast? = some p ∧ p.f0 = 32 ∧ p.f1 = x := fun j => by
  have := hI.say j
  constructor
  ·intro hF
   rw [hF] at this
   have h1 := congrArg Prod.fst this
   have h2 := congrArg Prod.snd this
   change 32 = sayK 0 _ at h1
   change (x : Int) = nodeK _ at h2
   unfold sayK at h1
   unfold nodeK at h2
   cases hg : (Wk t j t.length).getLast? with
   | none => rw [hg] at h1; exact absurd h1 (by decide)
   | some p =>
    rw [hg] at h1 h2
    exact ⟨p, rfl, h1.symm, h2.symm⟩
  ·rintro ⟨p, hg, h1, h2⟩
   have e : (sayK 0 (Wk t j t.length), nodeK (Wk t j t.length)) = (32, (x : Int)) := by
    unfold sayK nodeK
    rw [hg]
    show (p.f0, p.f1) = _
    rw [h1, h2]
   rw [e] at this
   cases hF : s.F j with
   | none => rw [hF] at this; exact absurd (show (0 : Int) = 32 from congrArg Prod.fst this) (by decide)
   | some v => rw [hF] at this; exact congrArg some this
 by_cases hT : t[x].f0 = 46
 ·have hTb := (isT_rd hxt).2 hT
  have hfl := h.home x hxt hTb
  rw [if_pos (⟨hT, hxt⟩ : t[x].f0 = 46 ∧ x < t.length), if_pos hT, ow_fo t x hfl]
  have hends : endsB t x = true ↔ s.F (fo t x) = some (32, (x : Int)) := by
   rw [hfac (fo t x)]
   unfold endsB
   constructor
   ·intro he
    split at he
    ·rename_i p hp
     rw [Bool.and_eq_true, decide_eq_true_eq, decide_eq_true_eq] at he
     exact ⟨p, hp, he.1, he.2⟩
    ·cases he
   ·rintro ⟨p, hp, h1, h2⟩
    rw [hp]
    simp [h1, h2]
  by_cases he : endsB t x = true
  ·rw [if_pos ⟨hends.1 he, rfl⟩]
   obtain ⟨D, k, hL⟩ := ends_last hxt (inF_fo hfl hTb) he
   unfold sqN fixN tx Mk
   rw [if_pos he, hL, List.dropLast_concat, byL_app]
   show (⟨_, trimT (strOfNums (byL D ++ [32])), _, _⟩ : S56) = _
   rw [trimT_str]
  ·rw [if_neg (fun h => he (hends.2 h.1))]
   unfold sqN fixN Mk
   rw [if_neg he]
 ·have hn : ¬ (s.F (ow t x) = some (32, (x : Int)) ∧ false = false) := fun hc => by
   have hr := ow_range t x
   have hc1 := hc.1
   rw [show ow t x = ((ow t x).toNat : Int) from by omega, hfac] at hc1
   obtain ⟨p, hp, h1, h2⟩ := hc1
   obtain ⟨q, h3, h4, h5⟩ := Wk_mem t _ t.length p (List.mem_of_getLast? hp)
   obtain rfl : q = x := by omega
   exact hT ((isT_rd hxt).1 (inF_in h5).1)
  rw [if_neg hn, if_neg hT, if_neg (fun h : t[x].f0 = 46 ∧ x < t.length => hT h.1)]
structure Alike (u v : List S56) : Prop where
 len : u.length = v.length
 f0 : ∀ i : Nat, (rd_T56 u i).f0 = (rd_T56 v i).f0
 f1 : ∀ i : Nat, (rd_T56 u i).f1 = (rd_T56 v i).f1
 f3 : ∀ i : Nat, (rd_T56 u i).f3 = (rd_T56 v i).f3
def eqF2 (u v : List S56) : Prop := ∀ i : Nat, liveB u i = true → (rd_T56 u i).f2 = (rd_T56 v i).f2
theorem Alike.sz {u v : List S56} (h : Alike u v) : sz u = sz v := funext fun i => by unfold Pr.sz; rw [h.f3]
theorem Alike.isT {u v : List S56} (h : Alike u v) : isT u = isT v := funext fun i => by unfold Pr.isT; rw [h.f0]
theorem Alike.live {u v : List S56} (h : Alike u v) : live u = live v := funext fun a => funext fun n => by
 have e : liveB u = liveB v := funext fun i => by unfold liveB; rw [h.isT, h.f1]
 unfold Pr.live
 rw [e]
 refine List.map_congr_left fun i _ => ?_
 rw [h.f1]
theorem Alike.par {u v : List S56} (h : Alike u v) : par u = par v := funext fun i => by
 have e : ∀ m, parG u i m = parG v i m := fun m => by
  induction m with
  | zero => rfl
  | succ m ih => unfold parG; rw [h.sz, ih]
 exact e i
theorem Alike.push {u v : List S56} (h : Alike u v) : push u = push v := funext fun P => funext fun x => by
 unfold Pr.push
 rw [h.isT, h.par]
theorem Alike.pk {u v : List S56} (h : Alike u v) : pk u = pk v := funext fun a => funext fun e => by unfold Pr.pk; rw [h.push, h.live]
theorem pk_live {t : List S56} {a e : Nat} {p : PT} (h : p ∈ pk t a e) : liveB t p.1 = true := by
 rcases fold_mem h with ⟨q, hq, e2⟩ | ⟨q, hq, _⟩
 ·unfold live at hq
  obtain ⟨i, hi, rfl⟩ := List.mem_map.1 hq
  rw [← e2]
  exact (List.mem_filter.1 hi).2
 ·cases hq
theorem Alike.nodes {u v : List S56} (h : Alike u v) (h2 : eqF2 u v) : nodes u (Pr.pk u 0 u.length) = nodes v (Pr.pk v 0 v.length) := by
 rw [← h.len, ← h.pk]
 unfold Pr.nodes
 refine List.map_congr_left fun p hp => ?_
 have hl := pk_live hp
 unfold nd cn
 rw [h.f0, h2 p.1 hl, h.sz]
theorem rd_out (t : List S56) (i : Nat) (h : t.length ≤ i) : rd_T56 t (i : Int) = z56 := by
 unfold rd_T56
 rw [Int.toNat_natCast, List.getD_eq_getElem?_getD, List.getElem?_eq_none h]
 rfl
theorem rd_sqF (t : List S56) (i : Nat) (h : i < t.length) : rd_T56 (sqF t) (i : Int) = if (rd_T56 t i).f0 = 46 then sqN t i (rd_T56 t i) else rd_T56 t i := by
 rw [rd_get _ i (by rw [sqF_len]; exact h), rd_get t i h]
 simp only [sqF, List.getElem_mapIdx]
theorem Nst.alike {u v : List S56} (hN : Nst u) (hl : u.length = v.length) (h0 : ∀ i : Nat, (rd_T56 u i).f0 = (rd_T56 v i).f0) (h3 : ∀ i : Nat, (rd_T56 u i).f3 = (rd_T56 v i).f3) : Nst v := by
 have hsz : sz u = sz v := funext fun i => by unfold sz; rw [h3]
 have hT : isT u = isT v := funext fun i => by unfold isT; rw [h0]
 refine ⟨fun i hi => ?_, fun i hi => ?_, fun i j hi => ?_, fun i hi ht => ?_⟩
 ·rw [← h3]; exact hN.pos i (by omega)
 ·rw [← hsz, ← hl]; exact hN.lim i (by omega)
 ·rw [← hsz]; exact hN.nest i j (by omega)
 ·rw [← h3]; exact hN.txt i (by omega) (by rw [hT]; exact ht)
theorem sqF_f0 (t : List S56) (i : Nat) : (rd_T56 t i).f0 = (rd_T56 (sqF t) i).f0 := by
 by_cases h : i < t.length
 ·rw [rd_sqF t i h]; split <;> rfl
 ·rw [rd_out t i (by omega), rd_out _ i (by rw [sqF_len]; omega)]
theorem sqF_f3 (t : List S56) (i : Nat) : (rd_T56 t i).f3 = (rd_T56 (sqF t) i).f3 := by
 by_cases h : i < t.length
 ·rw [rd_sqF t i h]; split <;> rfl
 ·rw [rd_out t i (by omega), rd_out _ i (by rw [sqF_len]; omega)]
theorem sqF_nst {t : List S56} (h : Nst t) : Nst (sqF t) := h.alike (sqF_len t).symm (sqF_f0 t) (sqF_f3 t)
theorem sqF_size (t : List S56) (M : Nat) (hM : ∀ i, i < t.length → (rd_T56 t i).f1.size ≤ M) : ∀ i, i < (sqF t).length → (rd_T56 (sqF t) i).f1.size ≤ M := fun i hi => by
 rw [sqF_len] at hi
 have h1 := hM i hi
 have h2 := Mk_len t i
 rw [rd_sqF t i hi]
 split
 ·show (strOfNums (byL (Mk t i))).size ≤ M
  rw [strN_size]
  simp only [byL, List.length_map]
  omega
 ·exact h1
def normP (t : List S56) : List S56 := nodes (sqF t) (pk (sqF t) 0 t.length)
end Go.Proofs.Ythcmfjpheanphaa.Pr
namespace Go.Proofs.Ythcmfjpheanphaa.Pr
open Go.RowKit Go.Proofs.Ythcmfjpheanphaa.Pure Go.Proofs.YthcmfjpheanphaaW.PrintWords
def topB : ByteArray := ⟨#[49, 50, 51, 112, 108, 116, 107]⟩
def esnB : ByteArray := ⟨#[101, 115, 110]⟩
def opens1 (r : List S159) (c : Int) : Bool :=
 if c = 110 then (if manyP 99 r = 0 then (if 0 < lastP flowsB r then ((rd_T159 r (lastP flowsB r)).f3 == 0) else false) else false) else true
def opens0 (r : List S159) (c : Int) : Bool :=
 if (topR r).f0 = 114 then (if c = 99 then decide ((topR r).f1.size < 8) else false)
 else if textsR r = true then (if inB c esnB = true then (if 0 < manyP c r then false else opens1 r c) else false) else false
def opensR (r : List S159) (c : Int) : Bool :=
 if r.length = 1 then inB c topB
 else if ((topR r).f0 = 105 ∧ c = 108) ∨ ((topR r).f0 = 108 ∧ c = 105) ∨ ((topR r).f0 = 116 ∧ c = 114) then true else opens0 r c
end Go.Proofs.Ythcmfjpheanphaa.Pr
namespace Go.Proofs.Ythcmfjpheanphaa.Pr
open Go.RowKit Go.Maps Go.Proofs.YthcmfjpheanphaaW.PrintWords
def cells9 (x : S159) : List Value := [.int .u8 x.f0, .string x.f1, .int .i64 x.f2, .int .i64 x.f3, .int .i64 x.f4, .string x.f5]
def flatQ (xs : List S159) : List Value := xs.flatMap cells9
theorem flatQ_length (xs : List S159) : (flatQ xs).length = xs.length * 6 := by
 induction xs with
 | nil => rfl
 | cons x xs ih => simp [flatQ, cells9] at ih ⊢; omega
theorem flatQ_cons (x : S159) (xs : List S159) : flatQ (x :: xs) = cells9 x ++ flatQ xs := by simp [flatQ]
def Row9 (W : World) (B0 : Nat) (v : Value) (r : List S159) : Prop := W.ownsRow B0 159 6 v r.length (flatQ r)
def Row6 (W : World) (B0 : Nat) (v : Value) (t : List S56) : Prop := W.ownsRow B0 56 4 v t.length (flat56 t)
structure RAt (W : World) (B0 : Nat) (vr vt : Value) (s : RSt) : Prop where
 row : Row9 W B0 vr s.r
 t : Row6 W B0 vt s.t
theorem RAt.below {W W' : World} {B0 : Nat} {vr vt : Value} {s : RSt} (h : RAt W B0 vr vt s) (hb : Below W.heap.size W W') : RAt W' B0 vr vt s := ⟨pw_own_below h.row hb, pw_own_below h.t hb⟩
theorem own_R159 {w : World} {base : Nat} {v : Value} {xs : List S159} (h : Row9 w base v xs) (b' : Nat) (hb : b' ≤ base) : Kd.R k159 159 w b' (fun _ => True) v xs := by
 refine Kd.R_lower (base := base) ⟨fun _ _ => trivial, flatQ xs, h, flatQ_length xs, fun j p hp => ?_⟩ hb
 have : ((flatQ xs).drop (j * 6)).take 6 = cells9 p := by
  have go : ∀ (xs : List S159) (j : Nat) (p : S159), xs[j]? = some p → ((flatQ xs).drop (j * 6)).take 6 = cells9 p := by
   intro xs
   induction xs with
   | nil => intro j p h; simp at h
   | cons x xs ih =>
    intro j p h
    cases j with
    | zero => simp at h; subst h; simp [flatQ, cells9]
    | succ j =>
     have := ih j p (by simpa using h)
     rw [flatQ_cons, Nat.succ_mul, Nat.add_comm, ← List.drop_drop]
     have e : (cells9 x ++ flatQ xs).drop 6 = flatQ xs := by simp [cells9]
     rw [e]
     exact this
  exact go xs j p hp
 show k159.M _ _ _ _ (((flatQ xs).drop (j * 6)).take 6)
 rw [this]
 exact k159_mkM _ _ _ _
theorem RAt.reads {W : World} {B0 n c : Nat} {A : Option Addr} {vt : Value} {s : RSt} (h : RAt W B0 (.slice A n c) vt s) : n = s.r.length ∧ n ≤ c ∧ Kd.C k159 W A s.r.length s.r := by
 obtain ⟨A', c', e, h1, h2⟩ := Kd.R_reads (own_R159 h.row B0 (Nat.le_refl _))
 simp only [Value.slice.injEq] at e
 obtain ⟨rfl, rfl, rfl⟩ := e
 exact ⟨rfl, h1, h2⟩
end Go.Proofs.Ythcmfjpheanphaa.Pr
namespace Go.Proofs.Ythcmfjpheanphaa.Pr
open Go.RowKit Go.Maps Go.Proofs.YthcmfjpheanphaaW.PrintWords
open Go.Proofs.YthcmfjpheanphaaW.PrintLast Go.Proofs.YthcmfjpheanphaaW.PrintMore
attribute [local go_sem] Oper.semAt_some max2_int max_two
structure OpB (k : Nat) (o : S159) : Prop where
 a : o.f1.size ≤ k
 b : o.f5.size ≤ 1000000 * k
 c : 0 ≤ o.f3
 d : o.f3 ≤ k
theorem OpB.up {k : Nat} {o : S159} (h : OpB k o) : OpB (k + 1) o := ⟨by have := h.a; omega, by have := h.b; omega, h.c, by have := h.d; omega⟩
def stylusref04_Read.f (l0 : List S47) : Option (List S56 × List S159) := if l0.length ≤ 800000 ∧ (l0.all fun x => decide (x.f2.size ≤ 1000000) && decide (0 ≤ x.f1) && decide (x.f1 ≤ 255)) = true then (readP read0 l0).map fun s => (s.t, s.r) else none
end Go.Proofs.Ythcmfjpheanphaa.Pr
namespace Go.Proofs.Ythcmfjpheanphaa.Pr
open Go.RowKit Go.Proofs.Ythcmfjpheanphaa.Pure Go.Proofs.YthcmfjpheanphaaW.PrintWords
def kindL : List Int := [49, 50, 51, 112, 108, 105, 116, 114, 99, 107, 110, 101, 115]
def tenM : Nat := 1000000
structure OpR (n T : Nat) (o : Opn) (x : S159) : Prop where
 kind : x.f0 = o.kind
 mem : o.kind ∈ kindL
 pos : x.f2 = o.pos
 pin : 0 ≤ o.pos ∧ o.pos < (T : Int)
 kids : o.kids = (x.f1.size : Int)
 kle : x.f1.size ≤ n
 note : x.f3 = o.note
 nle : 0 ≤ o.note ∧ o.note ≤ (n : Int)
 past : o.past = inB 108 x.f1
 cols : x.f4 = o.cols
 cle : 0 ≤ o.cols
 text : o.text = (x.f5.size : Int)
 tle : x.f5.size ≤ n * tenM
theorem OpR.up {n m T U : Nat} {o : Opn} {x : S159} (h : OpR n T o x) (hn : n ≤ m) (ht : T ≤ U) : OpR m U o x :=
 ⟨h.kind, h.mem, h.pos, ⟨h.pin.1, by have := h.pin.2; omega⟩, h.kids, Nat.le_trans h.kle hn, h.note, ⟨h.nle.1, by have := h.nle.2; omega⟩, h.past, h.cols, h.cle, h.text, Nat.le_trans h.tle (Nat.mul_le_mul_right _ hn)⟩
structure Rel (n : Nat) (s : Bld) (u : RSt) : Prop where
 t : u.t = s.t
 len : u.r.length = s.row.length + 1
 root : (u.r.getD 0 z159).f0 = 0
 op : ∀ i, i < s.row.length → OpR n s.t.length (s.row.getD i zOpn) (u.r.getD (i + 1) z159)
 chain : RChain s.row
theorem getD_snoc {α : Type} (l : List α) (x z : α) (i : Nat) : (l ++ [x]).getD i z = if i < l.length then l.getD i z else if i = l.length then x else z := by
 simp only [List.getD_eq_getElem?_getD]
 by_cases h : i < l.length
 ·rw [if_pos h, List.getElem?_append_left h]
 ·rw [if_neg h, List.getElem?_append_right (by omega)]
  by_cases e : i = l.length
  ·subst e; simp
  ·rw [if_neg e, List.getElem?_eq_none (by simp; omega)]; rfl
theorem getD_init {α : Type} (l : List α) (z : α) (i : Nat) (h : i + 1 < l.length) : l.dropLast.getD i z = l.getD i z := by
 simp only [List.getD_eq_getElem?_getD, List.getElem?_dropLast]
 rw [if_pos (by omega)]
theorem topP_at (r : List Opn) (h : r ≠ []) : topP r = r.getD (r.length - 1) zOpn := by
 unfold topP
 rw [List.getLast?_eq_getElem?, List.getD_eq_getElem?_getD]
theorem rd_at (r : List S159) (i : Nat) : rd_T159 r (i : Int) = r.getD i z159 := by
 unfold rd_T159
 rw [Int.toNat_natCast]
theorem Rel.top {n : Nat} {s : Bld} {u : RSt} (h : Rel n s u) (hr : s.row ≠ []) : OpR n s.t.length (topP s.row) (topR u.r) := by
 have hl : 0 < s.row.length := List.length_pos_iff.mpr hr
 unfold topR
 rw [topP_at _ hr, rd_at, h.len, Nat.add_sub_cancel]
 have := h.op (s.row.length - 1) (by omega)
 rwa [show s.row.length - 1 + 1 = s.row.length from by omega] at this
theorem Rel.up {n m : Nat} {s : Bld} {u : RSt} (h : Rel n s u) (hm : n ≤ m) : Rel m s u :=
 ⟨h.t, h.len, h.root, fun i hi => (h.op i hi).up hm (Nat.le_refl _), h.chain⟩
theorem Rel.push {n : Nat} {s : Bld} {u : RSt} (h : Rel n s u) {o : Opn} {x : S159} (ho : OpR n s.t.length o x) (hc : RChain (s.row ++ [o])) : Rel n ⟨s.row ++ [o], s.t⟩ ⟨u.t, u.r ++ [x]⟩ := by
 refine ⟨h.t, by simp [h.len], ?_, fun i hi => ?_, hc⟩
 ·show ((u.r ++ [x]).getD 0 z159).f0 = 0
  rw [getD_snoc, if_pos (by have := h.len; omega)]
  exact h.root
 ·have hi' : i < s.row.length + 1 := by have := hi; simpa using this
  clear hi
  show OpR n s.t.length ((s.row ++ [o]).getD i zOpn) ((u.r ++ [x]).getD (i + 1) z159)
  rw [getD_snoc, getD_snoc, h.len]
  by_cases e : i < s.row.length
  ·rw [if_pos e, if_pos (by omega)]
   exact h.op i e
  ·rw [if_neg e, if_pos (by omega), if_neg (by omega), if_pos (by omega)]
   exact ho
theorem Rel.drop {n : Nat} {s : Bld} {u : RSt} (h : Rel n s u) (hr : s.row ≠ []) : Rel n ⟨s.row.dropLast, s.t⟩ ⟨u.t, u.r.dropLast⟩ := by
 have hl : 0 < s.row.length := List.length_pos_iff.mpr hr
 refine ⟨h.t, by simp only [List.length_dropLast, h.len]; omega, ?_, fun i hi => ?_, chain_drop h.chain⟩
 ·show (u.r.dropLast.getD 0 z159).f0 = 0
  rw [getD_init _ _ _ (by have := h.len; omega)]
  exact h.root
 ·have hi' : i < s.row.length - 1 := by simpa using hi
  show OpR n s.t.length (s.row.dropLast.getD i zOpn) (u.r.dropLast.getD (i + 1) z159)
  rw [getD_init _ _ _ (by omega), getD_init _ _ _ (by have := h.len; omega)]
  exact h.op i (by omega)
theorem Rel.size {n : Nat} {s : Bld} {u : RSt} (h : Rel n s u) (j : Nat) (f : S56 → S56) : Rel n ⟨s.row, s.t.modify j f⟩ ⟨u.t.modify j f, u.r⟩ :=
 ⟨by show _ = _; rw [h.t], h.len, h.root, fun i hi => by show OpR n (s.t.modify j f).length _ _; rw [List.length_modify]; exact h.op i hi, h.chain⟩
theorem Rel.last {n : Nat} {s : Bld} {u : RSt} (h : Rel n s u) (ks : ByteArray) (kl : List Int) (hk : ∀ c, inB c ks = kl.contains c) : ∀ m, m ≤ s.row.length →
  lastR ks u.r m = (match aroundP kl s.row m with | some j => ((j + 1 : Nat) : Int) | none => -1)
 | 0, _ => rfl
 | m + 1, hm => by
  simp only [lastR, aroundP]
  rw [rd_at, (h.op m (by omega)).kind, hk]
  by_cases hc : kl.contains (s.row.getD m zOpn).kind = true
  ·rw [if_pos hc, if_pos hc]
  ·rw [if_neg hc, if_neg hc]
   exact h.last ks kl hk m (by omega)
theorem Rel.lastP {n : Nat} {s : Bld} {u : RSt} (h : Rel n s u) (ks : ByteArray) (kl : List Int) (hk : ∀ c, inB c ks = kl.contains c) :
  Pr.lastP ks u.r = (match aroundP kl s.row s.row.length with | some j => ((j + 1 : Nat) : Int) | none => -1) := by
 unfold Pr.lastP
 rw [h.len, Nat.add_sub_cancel]
 exact h.last ks kl hk _ (Nat.le_refl _)
theorem Rel.manyR {n : Nat} {s : Bld} {u : RSt} (h : Rel n s u) (b : Int) : ∀ d i, d + i = s.row.length → Pr.manyR b u.r d (i + 1) = ((s.row.drop i).filter (·.kind == b)).length
 | 0, i, e => by
  rw [List.drop_eq_nil_of_le (by omega)]
  rfl
 | d + 1, i, e => by
  have hi : i < s.row.length := by omega
  have hg : s.row[i] = s.row.getD i zOpn := by rw [List.getD_eq_getElem?_getD, List.getElem?_eq_getElem hi]; rfl
  simp only [Pr.manyR]
  rw [h.manyR b d (i + 1) (by omega), rd_at, (h.op i hi).kind, List.drop_eq_getElem_cons hi, List.filter_cons, hg]
  by_cases hc : (s.row.getD i zOpn).kind = b
  ·rw [if_pos hc, if_pos (by simpa using hc), List.length_cons]
   omega
  ·rw [if_neg hc, if_neg (by simpa using hc)]
   omega
theorem OpR.txt {n T : Nat} {o : Opn} {x : S159} (h : OpR n T o x) (hn : n ≤ 8000000) (b : ByteArray) (hb : b.size ≤ 1000000) : OpR (n + 1) T (textF b.size o) (textR b x) := by
 have ht := h.tle
 unfold tenM at ht
 refine ⟨h.kind, h.mem, h.pos, h.pin, h.kids, by have := h.kle; show x.f1.size ≤ n + 1; omega, h.note, ⟨h.nle.1, by have := h.nle.2; show o.note ≤ _; omega⟩, h.past, h.cols, h.cle, ?_, ?_⟩
 ·show wrap64 (o.text + b.size) = ((x.f5 ++ b).size : Int)
  rw [h.text, ByteArray.size_append, IntWalk.wrap64_in _ ⟨by omega, by omega⟩]
  omega
 ·show (x.f5 ++ b).size ≤ (n + 1) * tenM
  unfold tenM
  rw [ByteArray.size_append]
  omega
end Go.Proofs.Ythcmfjpheanphaa.Pr
namespace Go.Proofs.Ythcmfjpheanphaa.Pr
open Go.RowKit Go.Maps Go.Proofs.Ythcmfjpheanphaa.Pure Go.Proofs.YthcmfjpheanphaaW.PrintWords
attribute [local go_sem] Oper.semAt_some
def stylusref04_Step.f (k : Nat) (l0 : List S56) (l1 : List S159) (a0 a1 : Int) (a2 : ByteArray) (a3 : Int) : Option (Int × Int) :=
 if 0 < l1.length ∧ l1.length ≤ 800000 ∧ (topR l1).f1.size ≤ 800000 ∧ a2.size ≤ 1000000 then some (stepR (opensR l1 a1) ⟨l0, l1⟩ ⟨a0, a1, a2, a3⟩) else none
theorem stylusref04_Step.mono : ∀ l0 l1 a0 a1 a2 a3 k, LeO (stylusref04_Step.f k l0 l1 a0 a1 a2 a3) (stylusref04_Step.f (k + 1) l0 l1 a0 a1 a2 a3) := fun _ _ _ _ _ _ _ => LeO.refl _
end Go.Proofs.Ythcmfjpheanphaa.Pr
namespace Go.Proofs.Ythcmfjpheanphaa.Pr
open Go.RowKit Go.Proofs.YthcmfjpheanphaaW.PrintWords Go.Proofs.YthcmfjpheanphaaW.PrintLast Go.Proofs.YthcmfjpheanphaaW.PrintMore
attribute [local go_sem] max2_int min2_int max_two min_two max_three min_three max_four min_four
def stylusref04_Parse.l0 : Nat → ByteArray → List (S47) → Int → Option ((List (S56)) × Int × Int)
 | 0, _, _, _ => none
 | k + 1, x0, x5, x8 => if x8 < (x5.length : Int) then (if 0 ≤ x8 then (if x8 ≤ (x5.length : Int) then ((stylusref04_Read.f (x5.take (x8 : Int).toNat)).bind fun bt165 => ((stylusref04_Step.f k bt165.1 bt165.2 ((rd_T47 x5 x8).f0) ((rd_T47 x5 x8).f1) ((rd_T47 x5 x8).f2) ((rd_T47 x5 x8).f3)).bind fun bt172 => (if bt172.2 = 0 then (stylusref04_Parse.l0 k x0 x5 (wrap64 (x8 + 1))) else (some (([] : List (S56)), bt172.1, bt172.2))))) else (none)) else (none)) else ((stylusref04_Read.f x5).bind fun bt155 => (if (bt155.2.length : Int) > 1 then (some (([] : List (S56)), (x0.size : Int), 2)) else (some (bt155.1, 0, 0))))
def stylusref04_Parse.f (k : Nat) (a0 : ByteArray) : Option ((List (S56)) × Int × Int) := (stylusref03_Of.f k a0).bind fun bt150 => (if bt150.2.2 = 0 then (stylusref04_Parse.l0 k a0 bt150.1 0) else (some (([] : List (S56)), bt150.2.1, bt150.2.2)))
theorem stylusref04_Parse.mono_l : ∀ k, (∀ y0 y1 y2, LeO (stylusref04_Parse.l0 k y0 y1 y2) (stylusref04_Parse.l0 (k + 1) y0 y1 y2))
 | 0 => fun _ _ _ r h => by simp [stylusref04_Parse.l0] at h
 | k + 1 => by
  have ih0 := stylusref04_Parse.mono_l k
  ·intro y0 y1 y2
   unfold stylusref04_Parse.l0
   repeat' first
   | (with_reducible exact ih0 _ _ _)
   | (with_reducible exact stylusref03_Of.mono _ _)
   | (with_reducible exact stylusref04_Step.mono _ _ _ _ _ _ _)
   | (with_reducible exact LeO.refl _)
   | (with_reducible exact LeO.none _)
   | (with_reducible refine LeO.ite ?_ ?_)
   | (with_reducible refine LeO.bind ?_ (fun _ => ?_))
   | exact ih0 _ _ _
   | exact stylusref03_Of.mono _ _
   | exact stylusref04_Step.mono _ _ _ _ _ _ _
   | exact LeO.none _
   | refine LeO.ite ?_ ?_
   | refine LeO.bind ?_ (fun _ => ?_)
theorem stylusref04_Parse.mono : ∀ a0 k, LeO (stylusref04_Parse.f k a0) (stylusref04_Parse.f (k + 1) a0) := by
 intro a0 k
 have ih0 := stylusref04_Parse.mono_l k
 unfold stylusref04_Parse.f
 repeat' first
   | (with_reducible exact ih0 _ _ _)
   | (with_reducible exact stylusref03_Of.mono _ _)
   | (with_reducible exact stylusref04_Step.mono _ _ _ _ _ _ _)
   | (with_reducible exact LeO.refl _)
   | (with_reducible exact LeO.none _)
   | (with_reducible refine LeO.ite ?_ ?_)
   | (with_reducible refine LeO.bind ?_ (fun _ => ?_))
   | exact ih0 _ _ _
   | exact stylusref03_Of.mono _ _
   | exact stylusref04_Step.mono _ _ _ _ _ _ _
   | exact LeO.none _
   | refine LeO.ite ?_ ?_
   | refine LeO.bind ?_ (fun _ => ?_)
mutual
def stylusref04_events.l0 : Nat → List (S56) → Int → Int → List (S47) → Option ((List (S47)) × Bool)
 | 0, _, _, _, _ => none
 | k + 1, x0, x1, x2, x8 => if x1 < x2 then (if 0 ≤ x1 then (if x1 < (x0.length : Int) then (if ((rd_T56 x0 x1).f3) < 1 then (stylusref04_events.j1 k x0 x1 x2 x8 true ((rd_T56 x0 x1).f0) ((rd_T56 x0 x1).f1) ((rd_T56 x0 x1).f2) ((rd_T56 x0 x1).f3)) else (if (wrap64 (x1 + ((rd_T56 x0 x1).f3))) > x2 then (stylusref04_events.j1 k x0 x1 x2 x8 true ((rd_T56 x0 x1).f0) ((rd_T56 x0 x1).f1) ((rd_T56 x0 x1).f2) ((rd_T56 x0 x1).f3)) else (stylusref04_events.j1 k x0 x1 x2 x8 (decide ((wrap64 (x1 + ((rd_T56 x0 x1).f3))) < x1)) ((rd_T56 x0 x1).f0) ((rd_T56 x0 x1).f1) ((rd_T56 x0 x1).f2) ((rd_T56 x0 x1).f3)))) else (none)) else (none)) else (some (x8, true))
def stylusref04_events.j1 : Nat → List (S56) → Int → Int → List (S47) → Bool → Int → ByteArray → Int → Int → Option ((List (S47)) × Bool)
 | 0, _, _, _, _, _, _, _, _, _ => none
 | k + 1, x0, x1, x2, x8, x37, x291000, x291001, x291002, x291003 => if x37 = true then (some (([] : List (S47)), false)) else (if x291000 = 46 then (if x291003 = 1 then (if x8.length < 3518437208883 then (stylusref04_events.l0 k x0 (wrap64 (x1 + x291003)) x2 (x8 ++ [(⟨1, 0, x291001, 0⟩ : S47)])) else (none)) else (some (([] : List (S47)), false))) else ((stylusref04_events.f k x0 (wrap64 (x1 + 1)) (wrap64 (x1 + x291003))).bind fun bt294 => (if bt294.2 = true then (if x8.length < 3518437208883 then ((some (x8 ++ [(⟨2, x291000, (⟨#[]⟩ : ByteArray), 0⟩ : S47)] : List (S47))).bind fun y298 => (if y298.length + bt294.1.length < 3518437208883 then ((some (y298 ++ bt294.1 : List (S47))).bind fun y301 => (if y301.length < 3518437208883 then (stylusref04_events.l0 k x0 (wrap64 (x1 + x291003)) x2 (y301 ++ [(⟨3, 0, (⟨#[]⟩ : ByteArray), 0⟩ : S47)])) else (none))) else (none))) else (none)) else (some (([] : List (S47)), false)))))
def stylusref04_events.f : Nat → List (S56) → Int → Int → Option ((List (S47)) × Bool)
 | 0, _, _, _ => none
 | k + 1, l0, a1, a2 => stylusref04_events.l0 k l0 a1 a2 ([] : List (S47))
end
theorem stylusref04_events.mono_l : ∀ k, (∀ y0 y1 y2, LeO (stylusref04_events.f k y0 y1 y2) (stylusref04_events.f (k + 1) y0 y1 y2)) ∧ (∀ y0 y1 y2 y3, LeO (stylusref04_events.l0 k y0 y1 y2 y3) (stylusref04_events.l0 (k + 1) y0 y1 y2 y3)) ∧ (∀ y0 y1 y2 y3 y4 y5 y6 y7 y8, LeO (stylusref04_events.j1 k y0 y1 y2 y3 y4 y5 y6 y7 y8) (stylusref04_events.j1 (k + 1) y0 y1 y2 y3 y4 y5 y6 y7 y8))
 | 0 => ⟨fun _ _ _ r h => by simp [stylusref04_events.f] at h, fun _ _ _ _ r h => by simp [stylusref04_events.l0] at h, fun _ _ _ _ _ _ _ _ _ r h => by simp [stylusref04_events.j1] at h⟩
 | k + 1 => by
  obtain ⟨ih0, ih1, ih2⟩ := stylusref04_events.mono_l k
  refine ⟨?_, ?_, ?_⟩
  ·intro y0 y1 y2
   unfold stylusref04_events.f
   repeat' first
   | (with_reducible exact ih0 _ _ _)
   | (with_reducible exact ih1 _ _ _ _)
   | (with_reducible exact ih2 _ _ _ _ _ _ _ _ _)
   | (with_reducible exact LeO.refl _)
   | (with_reducible exact LeO.none _)
   | (with_reducible refine LeO.ite ?_ ?_)
   | (with_reducible refine LeO.bind ?_ (fun _ => ?_))
   | exact ih0 _ _ _
   | exact ih1 _ _ _ _
   | exact ih2 _ _ _ _ _ _ _ _ _
   | exact LeO.none _
   | refine LeO.ite ?_ ?_
   | refine LeO.bind ?_ (fun _ => ?_)
  ·intro y0 y1 y2 y3
   unfold stylusref04_events.l0
   repeat' first
   | (with_reducible exact ih0 _ _ _)
   | (with_reducible exact ih1 _ _ _ _)
   | (with_reducible exact ih2 _ _ _ _ _ _ _ _ _)
   | (with_reducible exact LeO.refl _)
   | (with_reducible exact LeO.none _)
   | (with_reducible refine LeO.ite ?_ ?_)
   | (with_reducible refine LeO.bind ?_ (fun _ => ?_))
   | exact ih0 _ _ _
   | exact ih1 _ _ _ _
   | exact ih2 _ _ _ _ _ _ _ _ _
   | exact LeO.none _
   | refine LeO.ite ?_ ?_
   | refine LeO.bind ?_ (fun _ => ?_)
  ·intro y0 y1 y2 y3 y4 y5 y6 y7 y8
   unfold stylusref04_events.j1
   repeat' first
   | (with_reducible exact ih0 _ _ _)
   | (with_reducible exact ih1 _ _ _ _)
   | (with_reducible exact ih2 _ _ _ _ _ _ _ _ _)
   | (with_reducible exact LeO.refl _)
   | (with_reducible exact LeO.none _)
   | (with_reducible refine LeO.ite ?_ ?_)
   | (with_reducible refine LeO.bind ?_ (fun _ => ?_))
   | exact ih0 _ _ _
   | exact ih1 _ _ _ _
   | exact ih2 _ _ _ _ _ _ _ _ _
   | exact LeO.none _
   | refine LeO.ite ?_ ?_
   | refine LeO.bind ?_ (fun _ => ?_)
theorem stylusref04_events.mono : ∀ a0 a1 a2 k, LeO (stylusref04_events.f k a0 a1 a2) (stylusref04_events.f (k + 1) a0 a1 a2) := by
 intro a0 a1 a2 k
 obtain ⟨ih0, ih1, ih2⟩ := stylusref04_events.mono_l k
 exact ih0 a0 a1 a2
mutual
def stylusref04_Check.l0 : Nat → List (S56) → Int → Option (Int)
 | 0, _, _ => none
 | k + 1, x0, x3 => if x3 < (x0.length : Int) then (if 0 ≤ x3 then (if ((rd_T56 x0 x3).f0) = 46 then (if ((rd_T56 x0 x3).f1).toList = ([] : List UInt8) then (stylusref04_Check.j1 k x0 x3 true) else (stylusref04_Check.j1 k x0 x3 false)) else (if ((rd_T56 x0 x3).f1).toList = ([] : List UInt8) then ((stylusref03_Name.f k ((rd_T56 x0 x3).f0)).bind fun t278 => (stylusref04_Check.j1 k x0 x3 (t278.toList == ([] : List UInt8)))) else (stylusref04_Check.j1 k x0 x3 true))) else (none)) else ((stylusref04_events.f k x0 0 (x0.length : Int)).bind fun bt284 => (if bt284.2 = true then (stylusref04_Check.l2 k bt284.1 0 0 0) else (some 2)))
def stylusref04_Check.j1 : Nat → List (S56) → Int → Bool → Option (Int)
 | 0, _, _, _ => none
 | k + 1, x0, x3, x58 => if x58 = true then (some 2) else (stylusref04_Check.l1 k x0 x3 0)
def stylusref04_Check.l1 : Nat → List (S56) → Int → Int → Option (Int)
 | 0, _, _, _ => none
 | k + 1, x0, x3, x4 => if 0 ≤ x3 then (if x3 < (x0.length : Int) then (if x4 < (((rd_T56 x0 x3).f1).size : Int) then (if 0 ≤ x4 then ((stylusref01_Is.f k (bt ((rd_T56 x0 x3).f1) x4)).bind fun t281 => (if t281 = true then (stylusref04_Check.l1 k x0 x3 (wrap64 (x4 + 1))) else ((stylusref01_White.f (bt ((rd_T56 x0 x3).f1) x4)).bind fun t283 => (if t283 = true then (stylusref04_Check.l1 k x0 x3 (wrap64 (x4 + 1))) else (some 2))))) else (none)) else (stylusref04_Check.l0 k x0 (wrap64 (x3 + 1)))) else (none)) else (none)
def stylusref04_Check.l2 : Nat → List (S47) → Int → Int → Int → Option (Int)
 | 0, _, _, _, _ => none
 | k + 1, x5, x7, x8, x9 => if x9 < (x5.length : Int) then (if 0 ≤ x9 then (if x9 ≤ (x5.length : Int) then ((stylusref04_Read.f (x5.take (x9 : Int).toNat)).bind fun bt292 => (if ((rd_T47 x5 x9).f0) = 1 then ((stylusref04_Texts.f k bt292.2).bind fun t299 => (stylusref04_Check.j4 k x5 x7 x8 x9 bt292.1 bt292.2 (!t299))) else (stylusref04_Check.j4 k x5 x7 x8 x9 bt292.1 bt292.2 false))) else (none)) else (none)) else (if x7 > 0 then (some 5) else (if x8 > 0 then (some 4) else (some 0)))
def stylusref04_Check.j4 : Nat → List (S47) → Int → Int → Int → List (S56) → List (S159) → Bool → Option (Int)
 | 0, _, _, _, _, _, _, _ => none
 | k + 1, x5, x7, x8, x9, x10, x11, x121 => if x121 = true then (some 2) else (if 0 ≤ x9 then (if x9 < (x5.length : Int) then ((stylusref04_Step.f k x10 x11 ((rd_T47 x5 x9).f0) ((rd_T47 x5 x9).f1) ((rd_T47 x5 x9).f2) ((rd_T47 x5 x9).f3)).bind fun bt301 => (if bt301.2 = 2 then (some bt301.2) else (if bt301.2 = 5 then (if bt301.2 = 4 then (stylusref04_Check.l2 k x5 (wrap64 (x7 + 1)) (wrap64 (x8 + 1)) (wrap64 (x9 + 1))) else (stylusref04_Check.l2 k x5 (wrap64 (x7 + 1)) x8 (wrap64 (x9 + 1)))) else (if bt301.2 = 4 then (stylusref04_Check.l2 k x5 x7 (wrap64 (x8 + 1)) (wrap64 (x9 + 1))) else (stylusref04_Check.l2 k x5 x7 x8 (wrap64 (x9 + 1))))))) else (none)) else (none))
end
def stylusref04_Check.f (k : Nat) (l0 : List (S56)) : Option (Int) := stylusref04_Check.l0 k l0 0
theorem stylusref04_Check.mono_l : ∀ k, (∀ y0 y1, LeO (stylusref04_Check.l0 k y0 y1) (stylusref04_Check.l0 (k + 1) y0 y1)) ∧ (∀ y0 y1 y2, LeO (stylusref04_Check.j1 k y0 y1 y2) (stylusref04_Check.j1 (k + 1) y0 y1 y2)) ∧ (∀ y0 y1 y2, LeO (stylusref04_Check.l1 k y0 y1 y2) (stylusref04_Check.l1 (k + 1) y0 y1 y2)) ∧ (∀ y0 y1 y2 y3, LeO (stylusref04_Check.l2 k y0 y1 y2 y3) (stylusref04_Check.l2 (k + 1) y0 y1 y2 y3)) ∧ (∀ y0 y1 y2 y3 y4 y5 y6, LeO (stylusref04_Check.j4 k y0 y1 y2 y3 y4 y5 y6) (stylusref04_Check.j4 (k + 1) y0 y1 y2 y3 y4 y5 y6))
 | 0 => ⟨fun _ _ r h => by simp [stylusref04_Check.l0] at h, fun _ _ _ r h => by simp [stylusref04_Check.j1] at h, fun _ _ _ r h => by simp [stylusref04_Check.l1] at h, fun _ _ _ _ r h => by simp [stylusref04_Check.l2] at h, fun _ _ _ _ _ _ _ r h => by simp [stylusref04_Check.j4] at h⟩
 | k + 1 => by
  obtain ⟨ih0, ih1, ih2, ih3, ih4⟩ := stylusref04_Check.mono_l k
  refine ⟨?_, ?_, ?_, ?_, ?_⟩
  ·intro y0 y1
   unfold stylusref04_Check.l0
   repeat' first
   | (with_reducible exact ih0 _ _)
   | (with_reducible exact ih1 _ _ _)
   | (with_reducible exact ih2 _ _ _)
   | (with_reducible exact ih3 _ _ _ _)
   | (with_reducible exact ih4 _ _ _ _ _ _ _)
   | (with_reducible exact stylusref01_Is.mono _ _)
   | (with_reducible exact stylusref03_Name.mono _ _)
   | (with_reducible exact stylusref04_Step.mono _ _ _ _ _ _ _)
   | (with_reducible exact stylusref04_Texts.mono _ _)
   | (with_reducible exact stylusref04_events.mono _ _ _ _)
   | (with_reducible exact LeO.refl _)
   | (with_reducible exact LeO.none _)
   | (with_reducible refine LeO.ite ?_ ?_)
   | (with_reducible refine LeO.bind ?_ (fun _ => ?_))
   | exact ih0 _ _
   | exact ih1 _ _ _
   | exact ih2 _ _ _
   | exact ih3 _ _ _ _
   | exact ih4 _ _ _ _ _ _ _
   | exact stylusref01_Is.mono _ _
   | exact stylusref03_Name.mono _ _
   | exact stylusref04_Step.mono _ _ _ _ _ _ _
   | exact stylusref04_Texts.mono _ _
   | exact stylusref04_events.mono _ _ _ _
   | exact LeO.none _
   | refine LeO.ite ?_ ?_
   | refine LeO.bind ?_ (fun _ => ?_)
  ·intro y0 y1 y2
   unfold stylusref04_Check.j1
   repeat' first
   | (with_reducible exact ih0 _ _)
   | (with_reducible exact ih1 _ _ _)
   | (with_reducible exact ih2 _ _ _)
   | (with_reducible exact ih3 _ _ _ _)
   | (with_reducible exact ih4 _ _ _ _ _ _ _)
   | (with_reducible exact stylusref01_Is.mono _ _)
   | (with_reducible exact stylusref03_Name.mono _ _)
   | (with_reducible exact stylusref04_Step.mono _ _ _ _ _ _ _)
   | (with_reducible exact stylusref04_Texts.mono _ _)
   | (with_reducible exact stylusref04_events.mono _ _ _ _)
   | (with_reducible exact LeO.refl _)
   | (with_reducible exact LeO.none _)
   | (with_reducible refine LeO.ite ?_ ?_)
   | (with_reducible refine LeO.bind ?_ (fun _ => ?_))
   | exact ih0 _ _
   | exact ih1 _ _ _
   | exact ih2 _ _ _
   | exact ih3 _ _ _ _
   | exact ih4 _ _ _ _ _ _ _
   | exact stylusref01_Is.mono _ _
   | exact stylusref03_Name.mono _ _
   | exact stylusref04_Step.mono _ _ _ _ _ _ _
   | exact stylusref04_Texts.mono _ _
   | exact stylusref04_events.mono _ _ _ _
   | exact LeO.none _
   | refine LeO.ite ?_ ?_
   | refine LeO.bind ?_ (fun _ => ?_)
  ·intro y0 y1 y2
   unfold stylusref04_Check.l1
   repeat' first
   | (with_reducible exact ih0 _ _)
   | (with_reducible exact ih1 _ _ _)
   | (with_reducible exact ih2 _ _ _)
   | (with_reducible exact ih3 _ _ _ _)
   | (with_reducible exact ih4 _ _ _ _ _ _ _)
   | (with_reducible exact stylusref01_Is.mono _ _)
   | (with_reducible exact stylusref03_Name.mono _ _)
   | (with_reducible exact stylusref04_Step.mono _ _ _ _ _ _ _)
   | (with_reducible exact stylusref04_Texts.mono _ _)
   | (with_reducible exact stylusref04_events.mono _ _ _ _)
   | (with_reducible exact LeO.refl _)
   | (with_reducible exact LeO.none _)
   | (with_reducible refine LeO.ite ?_ ?_)
   | (with_reducible refine LeO.bind ?_ (fun _ => ?_))
   | exact ih0 _ _
   | exact ih1 _ _ _
   | exact ih2 _ _ _
   | exact ih3 _ _ _ _
   | exact ih4 _ _ _ _ _ _ _
   | exact stylusref01_Is.mono _ _
   | exact stylusref03_Name.mono _ _
   | exact stylusref04_Step.mono _ _ _ _ _ _ _
   | exact stylusref04_Texts.mono _ _
   | exact stylusref04_events.mono _ _ _ _
   | exact LeO.none _
   | refine LeO.ite ?_ ?_
   | refine LeO.bind ?_ (fun _ => ?_)
  ·intro y0 y1 y2 y3
   unfold stylusref04_Check.l2
   repeat' first
   | (with_reducible exact ih0 _ _)
   | (with_reducible exact ih1 _ _ _)
   | (with_reducible exact ih2 _ _ _)
   | (with_reducible exact ih3 _ _ _ _)
   | (with_reducible exact ih4 _ _ _ _ _ _ _)
   | (with_reducible exact stylusref01_Is.mono _ _)
   | (with_reducible exact stylusref03_Name.mono _ _)
   | (with_reducible exact stylusref04_Step.mono _ _ _ _ _ _ _)
   | (with_reducible exact stylusref04_Texts.mono _ _)
   | (with_reducible exact stylusref04_events.mono _ _ _ _)
   | (with_reducible exact LeO.refl _)
   | (with_reducible exact LeO.none _)
   | (with_reducible refine LeO.ite ?_ ?_)
   | (with_reducible refine LeO.bind ?_ (fun _ => ?_))
   | exact ih0 _ _
   | exact ih1 _ _ _
   | exact ih2 _ _ _
   | exact ih3 _ _ _ _
   | exact ih4 _ _ _ _ _ _ _
   | exact stylusref01_Is.mono _ _
   | exact stylusref03_Name.mono _ _
   | exact stylusref04_Step.mono _ _ _ _ _ _ _
   | exact stylusref04_Texts.mono _ _
   | exact stylusref04_events.mono _ _ _ _
   | exact LeO.none _
   | refine LeO.ite ?_ ?_
   | refine LeO.bind ?_ (fun _ => ?_)
  ·intro y0 y1 y2 y3 y4 y5 y6
   unfold stylusref04_Check.j4
   repeat' first
   | (with_reducible exact ih0 _ _)
   | (with_reducible exact ih1 _ _ _)
   | (with_reducible exact ih2 _ _ _)
   | (with_reducible exact ih3 _ _ _ _)
   | (with_reducible exact ih4 _ _ _ _ _ _ _)
   | (with_reducible exact stylusref01_Is.mono _ _)
   | (with_reducible exact stylusref03_Name.mono _ _)
   | (with_reducible exact stylusref04_Step.mono _ _ _ _ _ _ _)
   | (with_reducible exact stylusref04_Texts.mono _ _)
   | (with_reducible exact stylusref04_events.mono _ _ _ _)
   | (with_reducible exact LeO.refl _)
   | (with_reducible exact LeO.none _)
   | (with_reducible refine LeO.ite ?_ ?_)
   | (with_reducible refine LeO.bind ?_ (fun _ => ?_))
   | exact ih0 _ _
   | exact ih1 _ _ _
   | exact ih2 _ _ _
   | exact ih3 _ _ _ _
   | exact ih4 _ _ _ _ _ _ _
   | exact stylusref01_Is.mono _ _
   | exact stylusref03_Name.mono _ _
   | exact stylusref04_Step.mono _ _ _ _ _ _ _
   | exact stylusref04_Texts.mono _ _
   | exact stylusref04_events.mono _ _ _ _
   | exact LeO.none _
   | refine LeO.ite ?_ ?_
   | refine LeO.bind ?_ (fun _ => ?_)
theorem stylusref04_Check.mono : ∀ a0 k, LeO (stylusref04_Check.f k a0) (stylusref04_Check.f (k + 1) a0) := by
 intro a0 k
 obtain ⟨ih0, ih1, ih2, ih3, ih4⟩ := stylusref04_Check.mono_l k
 unfold stylusref04_Check.f
 repeat' first
   | (with_reducible exact ih0 _ _)
   | (with_reducible exact ih1 _ _ _)
   | (with_reducible exact ih2 _ _ _)
   | (with_reducible exact ih3 _ _ _ _)
   | (with_reducible exact ih4 _ _ _ _ _ _ _)
   | (with_reducible exact stylusref01_Is.mono _ _)
   | (with_reducible exact stylusref03_Name.mono _ _)
   | (with_reducible exact stylusref04_Step.mono _ _ _ _ _ _ _)
   | (with_reducible exact stylusref04_Texts.mono _ _)
   | (with_reducible exact stylusref04_events.mono _ _ _ _)
   | (with_reducible exact LeO.refl _)
   | (with_reducible exact LeO.none _)
   | (with_reducible refine LeO.ite ?_ ?_)
   | (with_reducible refine LeO.bind ?_ (fun _ => ?_))
   | exact ih0 _ _
   | exact ih1 _ _ _
   | exact ih2 _ _ _
   | exact ih3 _ _ _ _
   | exact ih4 _ _ _ _ _ _ _
   | exact stylusref01_Is.mono _ _
   | exact stylusref03_Name.mono _ _
   | exact stylusref04_Step.mono _ _ _ _ _ _ _
   | exact stylusref04_Texts.mono _ _
   | exact stylusref04_events.mono _ _ _ _
   | exact LeO.none _
   | refine LeO.ite ?_ ?_
   | refine LeO.bind ?_ (fun _ => ?_)
end Go.Proofs.Ythcmfjpheanphaa.Pr
namespace Go.Proofs.Ythcmfjpheanphaa.Pr
open Go.RowKit Go.Proofs.Ythcmfjpheanphaa.Pure Go.Proofs.YthcmfjpheanphaaW.PrintWords
def nodeB (x : S56) : Bool := if x.f0 = 46 then decide (0 < x.f1.size) && !decide (plainTo x.f1 x.f1.size 0 < x.f1.size) else decide (x.f1.size = 0) && decide (0 < (nameP x.f0).size)
theorem plainB_node (x : S56) : plainB x = (nodeB x && (if x.f0 = 46 then x.f3 == 1 else true)) := by
 unfold plainB nodeB firstOdd
 by_cases h : x.f0 = 46
 ·rw [if_pos h, if_pos h, if_pos h]
  have e : decide (0 ≤ if plainTo x.f1 x.f1.size 0 < x.f1.size then ((plainTo x.f1 x.f1.size 0 : Nat) : Int) else -1) = decide (plainTo x.f1 x.f1.size 0 < x.f1.size) := by
   by_cases h2 : plainTo x.f1 x.f1.size 0 < x.f1.size
   ·rw [if_pos h2, decide_eq_true h2, decide_eq_true (by omega)]
   ·rw [if_neg h2, decide_eq_false h2]; rfl
  rw [e]
  cases decide (0 < x.f1.size) <;> cases (x.f3 == 1) <;> cases decide (plainTo x.f1 x.f1.size 0 < x.f1.size) <;> rfl
 ·rw [if_neg h, if_neg h, if_neg h, Bool.and_true]
end Go.Proofs.Ythcmfjpheanphaa.Pr
namespace Go.Proofs.Ythcmfjpheanphaa.Pr
open Go.RowKit Go.Proofs.YthcmfjpheanphaaW.PrintWords Go.Proofs.YthcmfjpheanphaaW.PrintLast Go.Proofs.YthcmfjpheanphaaW.PrintMore
attribute [local go_sem] max2_int min2_int max_two min_two max_three min_three max_four min_four
def styluslaw04_vast.l0 : Nat → List (S56) → Int → Option (Bool)
 | 0, _, _ => none
 | k + 1, x0, x3 => if x3 < (x0.length : Int) then (if 0 ≤ x3 then (if (((rd_T56 x0 x3).f1).size : Int) > 100 then (some true) else (styluslaw04_vast.l0 k x0 (wrap64 (x3 + 1)))) else (none)) else (some false)
def styluslaw04_vast.f (k : Nat) (l0 : List (S56)) : Option (Bool) := if (l0.length : Int) > 150 then (some true) else (styluslaw04_vast.l0 k l0 0)
theorem styluslaw04_vast.mono_l : ∀ k, (∀ y0 y1, LeO (styluslaw04_vast.l0 k y0 y1) (styluslaw04_vast.l0 (k + 1) y0 y1))
 | 0 => fun _ _ r h => by simp [styluslaw04_vast.l0] at h
 | k + 1 => by
  have ih0 := styluslaw04_vast.mono_l k
  ·intro y0 y1
   unfold styluslaw04_vast.l0
   repeat' first
   | (with_reducible exact ih0 _ _)
   | (with_reducible exact LeO.refl _)
   | (with_reducible exact LeO.none _)
   | (with_reducible refine LeO.ite ?_ ?_)
   | (with_reducible refine LeO.bind ?_ (fun _ => ?_))
   | exact ih0 _ _
   | exact LeO.none _
   | refine LeO.ite ?_ ?_
   | refine LeO.bind ?_ (fun _ => ?_)
theorem styluslaw04_vast.mono : ∀ a0 k, LeO (styluslaw04_vast.f k a0) (styluslaw04_vast.f (k + 1) a0) := by
 intro a0 k
 have ih0 := styluslaw04_vast.mono_l k
 unfold styluslaw04_vast.f
 repeat' first
   | (with_reducible exact ih0 _ _)
   | (with_reducible exact LeO.refl _)
   | (with_reducible exact LeO.none _)
   | (with_reducible refine LeO.ite ?_ ?_)
   | (with_reducible refine LeO.bind ?_ (fun _ => ?_))
   | exact ih0 _ _
   | exact LeO.none _
   | refine LeO.ite ?_ ?_
   | refine LeO.bind ?_ (fun _ => ?_)
end Go.Proofs.Ythcmfjpheanphaa.Pr
namespace Go.Proofs.Ythcmfjpheanphaa.Pr
open Go.RowKit Go.Proofs.YthcmfjpheanphaaW.PrintWords
def ErrSet (e : Int) : Prop := e = 0 ∨ e = 2 ∨ e = 4 ∨ e = 5
theorem stepP_err (s : Bld) (x : S47) : ErrSet (stepP s x).2.2 := by
 unfold stepP ErrSet
 split
 ·unfold textsP
  split
  ·split
   ·simp only; split <;> simp
   ·simp only; split <;> simp
  ·split <;> simp
 ·split
  ·unfold opensP
   split
   ·simp only
    split
    ·simp
    ·split <;> simp
   ·simp
  ·unfold shutsP
   split
   ·simp
   ·simp only; split <;> simp
theorem worse_zero {a e : Int} (ha : a = 0 ∨ a = 4 ∨ a = 5) (he : ErrSet e) : (worseP a e = 0 → a = 0 ∧ e = 0) ∧ (worseP a e = 0 ∨ worseP a e = 2 ∨ worseP a e = 4 ∨ worseP a e = 5) := by
 rcases ha with rfl | rfl | rfl <;> rcases he with rfl | rfl | rfl | rfl <;> decide
def okR : Bld → List S47 → Bool
 | _, [] => true
 | s, x :: l => !(x.f0 == 1 && !mayP s.row 46) && ((stepP s x).2.2 == 0 && okR (stepP s x).1 l)
theorem checkGo_zero : ∀ (l : List S47) (s : Bld) (out : Int), (out = 0 ∨ out = 4 ∨ out = 5) → checkGo s out l = 0 → out = 0 ∧ okR s l = true
 | [], s, out, _, h => ⟨h, rfl⟩
 | x :: l, s, out, ho, h => by
  simp only [checkGo] at h
  by_cases h1 : (x.f0 == 1 && !mayP s.row 46) = true
  ·rw [if_pos h1] at h; cases h
  ·rw [if_neg h1] at h
   obtain ⟨g1, g2⟩ := worse_zero ho (stepP_err s x)
   by_cases h2 : worseP out (stepP s x).2.2 = 2
   ·rw [if_pos h2] at h; cases h
   ·rw [if_neg h2] at h
    obtain ⟨k1, k2⟩ := checkGo_zero l (stepP s x).1 _ (by omega) h
    obtain ⟨m1, m2⟩ := g1 k1
    refine ⟨m1, ?_⟩
    simp only [okR]
    have : (x.f0 == 1 && !mayP s.row 46) = false := by simpa using h1
    rw [this, m2, k2]
    rfl
theorem okR_run : ∀ (l : List S47) (s : Bld), okR s l = true → (runP s l).2.2 = 0
 | [], s, _ => rfl
 | x :: l, s, h => by
  simp only [okR, Bool.and_eq_true, beq_iff_eq] at h
  simp only [runP]
  rw [if_pos h.2.1]
  exact okR_run l _ h.2.2
theorem okR_app : ∀ (l m : List S47) (s : Bld), okR s (l ++ m) = true ↔ (okR s l = true ∧ okR (runP s l).1 m = true)
 | [], m, s => by simp [okR, runP]
 | x :: l, m, s => by
  simp only [List.cons_append, okR, Bool.and_eq_true, beq_iff_eq, runP]
  constructor
  ·rintro ⟨h1, h2, h3⟩
   rw [if_pos h2]
   obtain ⟨g1, g2⟩ := (okR_app l m _).1 h3
   exact ⟨⟨h1, h2, g1⟩, g2⟩
  ·rintro ⟨⟨h1, h2, h3⟩, h4⟩
   rw [if_pos h2] at h4
   exact ⟨h1, h2, (okR_app l m _).2 ⟨h3, h4⟩⟩
theorem ok_cons {s : Bld} {x : S47} {l : List S47} (h : okR s (x :: l) = true) : (stepP s x).2.2 = 0 ∧ okR (stepP s x).1 l = true ∧ runP s (x :: l) = runP (stepP s x).1 l ∧ (x.f0 = 1 → mayP s.row 46 = true) := by
 simp only [okR, Bool.and_eq_true, beq_iff_eq] at h
 refine ⟨h.2.1, h.2.2, ?_, fun e => ?_⟩
 ·simp only [runP]; rw [if_pos h.2.1]
 ·have := h.1
  rw [e] at this
  simpa using this
theorem nodeX_text {x : S56} (h : x.f0 = 46) : (nodeX x).f0 = 1 := by unfold nodeX; rw [if_pos h]
theorem nodeX_open {x : S56} (h : ¬ x.f0 = 46) : (nodeX x).f0 = 2 := by unfold nodeX; rw [if_neg h]
theorem plain_one {x : S56} (h : plainB x = true) (h46 : x.f0 = 46) : x.f3 = 1 := by
 unfold plainB at h
 rw [if_pos h46] at h
 simp only [Bool.and_eq_true, beq_iff_eq] at h
 exact h.2.1
theorem check_parts {t : List S56} (h : checkP t = 0) : (∀ x ∈ t, plainB x = true) ∧ sizedT t 0 t.length = true ∧ okR bld0 (eventsP t) = true := by
 unfold checkP at h
 by_cases hc : ((t.any fun x => !plainB x) || !sizedT t 0 t.length) = true
 ·rw [if_pos hc] at h; cases h
 ·rw [if_neg hc] at h
  have hc' : ((t.any fun x => !plainB x) || !sizedT t 0 t.length) = false := by simpa using hc
  rw [Bool.or_eq_false_iff] at hc'
  refine ⟨fun x hx => ?_, by simpa using hc'.2, (checkGo_zero _ _ 0 (.inl rfl) h).2⟩
  have := List.any_eq_false.1 hc'.1 x hx
  simpa using this
end Go.Proofs.Ythcmfjpheanphaa.Pr
namespace Go.Proofs.Ythcmfjpheanphaa.Pr
open Go.RowKit Go.Proofs.YthcmfjpheanphaaW.PrintWords Go.Proofs.YthcmfjpheanphaaW.PrintLast Go.Proofs.YthcmfjpheanphaaW.PrintMore
attribute [local go_sem] max2_int min2_int max_two min_two max_three min_three max_four min_four
def styluslaw03_LexReads.f (k : Nat) (a0 : ByteArray) : Option (Bool) := if (a0.size : Int) > 9000 then ((styluslaw03_awake.f k).bind fun t101 => (some t101)) else ((lex_Of.f a0).bind fun bt102 => ((stylusref03_Of.f k a0).bind fun bt107 => ((stylusref03_Same.f k bt102.1 bt107.1).bind fun t112 => (if t112 = true then (if bt102.2.1 = bt107.2.1 then (if bt102.2.2 = bt107.2.2 then ((styluslaw03_awake.f k).bind fun t113 => (some t113)) else (some false)) else (some false)) else (some false)))))
theorem styluslaw03_LexReads.mono : ∀ a0 k, LeO (styluslaw03_LexReads.f k a0) (styluslaw03_LexReads.f (k + 1) a0) := by
 intro a0 k
 unfold styluslaw03_LexReads.f
 repeat' first
   | (with_reducible exact styluslaw03_awake.mono _)
   | (with_reducible exact stylusref03_Of.mono _ _)
   | (with_reducible exact stylusref03_Same.mono _ _ _)
   | (with_reducible exact LeO.refl _)
   | (with_reducible exact LeO.none _)
   | (with_reducible refine LeO.ite ?_ ?_)
   | (with_reducible refine LeO.bind ?_ (fun _ => ?_))
   | exact styluslaw03_awake.mono _
   | exact stylusref03_Of.mono _ _
   | exact stylusref03_Same.mono _ _ _
   | exact LeO.none _
   | refine LeO.ite ?_ ?_
   | refine LeO.bind ?_ (fun _ => ?_)
def styluslaw03_LexReads.Pure : Prop := ∀ (a0 : ByteArray), a0.size ≤ 140737488351232 → ∃ k, styluslaw03_LexReads.f k a0 = some true
end Go.Proofs.Ythcmfjpheanphaa.Pr
namespace Go.Proofs.Ythcmfjpheanphaa.Pure
open Go.RowKit Go.Proofs.Ythcmfjpheanphaa.Pr Go.Proofs.YthcmfjpheanphaaW.PrintWords Go.Proofs.YthcmfjpheanphaaW.PrintLast
theorem ext_one (s : ByteArray) (p : Nat) (c : UInt8) (hp : p < s.size) (h : bt s (p : Int) = c.toNat) : s.extract p (p + 1) = ⟨#[c]⟩ := by
 have hz : (⟨#[c]⟩ : ByteArray).size = 1 := rfl
 apply byte_ext
 ·rw [ByteArray.size_extract, hz]; omega
 ·intro j hj
  rw [ByteArray.size_extract] at hj
  obtain rfl : j = 0 := by omega
  rw [bt_extract s p (p + 1) (by omega) 0 (by omega)]
  exact h
end Go.Proofs.Ythcmfjpheanphaa.Pure
namespace Go.Proofs.Ythcmfjpheanphaa.Pr
open Go.RowKit Go.Proofs.Ythcmfjpheanphaa.Pure Go.Proofs.YthcmfjpheanphaaW.PrintWords
theorem plainTo_in (t : ByteArray) : ∀ d p j, p ≤ j → j < plainTo t d p → plainP (bt t (j : Int)) = true
 | 0, p, j, h1, h2 => by simp only [plainTo] at h2; omega
 | d + 1, p, j, h1, h2 => by
  simp only [plainTo] at h2
  by_cases hc : p < t.size ∧ plainP (bt t (p : Int)) = true
  ·rw [if_pos hc] at h2
   by_cases e : j = p
   ·subst e; exact hc.2
   ·exact plainTo_in t d (p + 1) j (by omega) h2
  ·rw [if_neg hc] at h2; omega
end Go.Proofs.Ythcmfjpheanphaa.Pr
namespace Go.Proofs.Ythcmfjpheanphaa.Pr
open Go.RowKit Go.Proofs.YthcmfjpheanphaaW.PrintWords
def kdR (r : List Opn) : List Int := r.map (·.kind)
theorem topP_kind (r : List Opn) : (topP r).kind = (kdR r).getLast?.getD 0 := by
 unfold topP kdR
 rw [List.getLast?_map]
 cases r.getLast? <;> rfl
theorem kd_modify {f : Opn → Opn} (hf : ∀ o, (f o).kind = o.kind) (r : List Opn) (j : Nat) : kdR (r.modify j f) = kdR r := by
 apply List.ext_getElem?
 intro i
 unfold kdR
 simp only [List.getElem?_map, List.getElem?_modify]
 cases r[i]? with
 | none => rfl
 | some o => simp only [Option.map_some]; split <;> simp [hf]
theorem kd_kidP (r : List Opn) : kdR (kidP r) = kdR r := kd_modify (f := kidF) (fun _ => rfl) r _
theorem kd_markP (r : List Opn) (k : Int) : kdR (markP r k) = kdR r := by
 unfold markP
 split
 ·split
  ·exact kd_modify (f := noteF) (fun _ => rfl) r _
  ·rfl
 ·split
  ·exact kd_modify (f := pastF) (fun _ => rfl) r _
  ·rfl
theorem kd_wholeP (r : List Opn) (o : Opn) : kdR (wholeP r o).1 = kdR r := by
 unfold wholeP
 split
 ·rfl
 ·split
  ·split
   ·split
    ·exact kd_modify (f := colsF o.kids) (fun _ => rfl) r _
    ·rfl
   ·rfl
  ·rfl
theorem kd_text (s : Bld) (x : S47) : kdR (textsP s x).1.row = kdR s.row := by
 unfold textsP
 split
 ·split
  ·exact (kd_modify (f := textF x.f2.size) (fun _ => rfl) _ _).trans (kd_kidP _)
  ·exact kd_kidP _
 ·split <;> rfl
theorem kd_open (s : Bld) (x : S47) (h : (opensP s x).2.2 = 0) : mayP s.row x.f1 = true ∧ kdR (opensP s x).1.row = kdR s.row ++ [x.f1] := by
 unfold opensP at h ⊢
 by_cases hm : mayP s.row x.f1 = true
 ·simp only [if_pos hm] at h ⊢
  refine ⟨hm, ?_⟩
  unfold kdR
  rw [List.map_append]
  have e : (kidP (markP s.row x.f1)).map (·.kind) = s.row.map (·.kind) := (kd_kidP _).trans (kd_markP _ _)
  rw [e]
  rfl
 ·simp only [if_neg hm] at h
  cases h
theorem kd_shut (s : Bld) (x : S47) (h : (shutsP s x).2.2 = 0) : kdR (shutsP s x).1.row = (kdR s.row).dropLast := by
 unfold shutsP at h ⊢
 by_cases hr : s.row = []
 ·rw [if_pos hr] at h; cases h
 ·rw [if_neg hr]
  show kdR (wholeP s.row.dropLast (topP s.row)).1 = _
  rw [kd_wholeP]
  unfold kdR
  rw [List.map_dropLast]
theorem nodeX_kind {x : S56} (h : ¬ x.f0 = 46) : (nodeX x).f1 = x.f0 := by unfold nodeX; rw [if_neg h]
theorem may_ok {r : List Opn} {k : Int} (h : mayP r k = true) : okP (topP r).kind k = true := by
 cases ho : okP (topP r).kind k with
 | true => rfl
 | false => unfold mayP at h; rw [ho] at h; cases h
theorem step_shut (s : Bld) : stepP s shutX = shutsP s shutX := by
 unfold stepP
 rw [if_neg (by decide : ¬ shutX.f0 = 1), if_neg (by decide : ¬ shutX.f0 = 2)]
theorem evF_kd (t : List S56) : ∀ (n a e : Nat) (s : Bld), okR s (evF n t a e) = true → kdR (runP s (evF n t a e)).1.row = kdR s.row
 | 0, a, e, s, _ => rfl
 | n + 1, a, e, s, h => by
  simp only [evF] at h ⊢
  by_cases hlt : a < e
  ·rw [if_pos hlt] at h ⊢
   by_cases h46 : (rd_T56 t a).f0 = 46
   ·rw [if_pos h46] at h ⊢
    obtain ⟨h1, h2, h3, _⟩ := ok_cons h
    rw [h3, evF_kd t n _ _ _ h2]
    unfold stepP
    rw [if_pos (nodeX_text h46)]
    exact kd_text s _
   ·rw [if_neg h46] at h ⊢
    obtain ⟨h1, h2, h3, _⟩ := ok_cons h
    obtain ⟨g1, g2⟩ := (okR_app _ _ _).1 h2
    have k1 := evF_kd t n _ _ _ g1
    rw [h3, runP_app _ _ _ (okR_run _ _ g1)]
    obtain ⟨m1, m2, m3, _⟩ := ok_cons g2
    rw [m3, evF_kd t n _ _ _ m2]
    have q1 : kdR (stepP s (nodeX (rd_T56 t a))).1.row = kdR s.row ++ [(rd_T56 t a).f0] := by
     unfold stepP at h1 ⊢
     rw [if_neg (by rw [nodeX_open h46]; decide), if_pos (nodeX_open h46)] at h1 ⊢
     rw [(kd_open s _ h1).2, nodeX_kind h46]
    rw [step_shut] at m1 ⊢
    have q3 := kd_shut _ _ m1
    rw [k1, q1, List.dropLast_concat] at q3
    exact q3
  ·rw [if_neg hlt]; rfl
def kdOf (t : List S56) (z : Int) : Int := if z < 0 then 0 else (rd_T56 t z).f0
theorem ev_local (t : List S56) (hN : Nst t) : ∀ (n a e s0 : Nat) (s : Bld), Lvl t s0 e a → a ≤ e → e - a ≤ n → (topP s.row).kind = kdOf t ((s0 : Int) - 1) → okR s (evF n t a e) = true →
   ∀ i : Nat, a ≤ i → i < e → okP (kdOf t (par t i)) (rd_T56 t i).f0 = true
 | 0, a, e, s0, s, hL, hae, hn, hk, h => fun i h1 h2 => by omega
 | n + 1, a, e, s0, s, hL, hae, hn, hk, h => fun i hi1 hi2 => by
  simp only [evF] at h
  have hlt : a < e := by omega
  have hlim := hL.lim
  have hpos := hN.pos a (by omega)
  have hsz1 : 1 ≤ sz t a := by unfold sz; omega
  have hfit := hL.fits hN hlt
  have hpar := hL.par hN hlt
  have hnx := hL.next hN hlt
  rw [if_pos hlt] at h
  by_cases h46 : (rd_T56 t a).f0 = 46
  ·rw [if_pos h46] at h
   obtain ⟨h1, h2, h3, h4⟩ := ok_cons h
   have hT : isT t a = true := by unfold isT; rw [h46]; rfl
   have hs1 : sz t a = 1 := by have := hN.txt a (by omega) hT; unfold sz; omega
   rw [hs1] at hnx hfit
   rcases Nat.eq_or_lt_of_le hi1 with rfl | hi3
   ·have := may_ok (h4 (nodeX_text h46))
    rw [hk] at this
    rw [hpar, h46]
    exact this
   ·refine ev_local t hN n (a + 1) e s0 _ hnx (by omega) (by omega) ?_ h2 i (by omega) hi2
    rw [topP_kind]
    unfold stepP
    rw [if_pos (nodeX_text h46), kd_text, ← topP_kind]
    exact hk
  ·rw [if_neg h46] at h
   obtain ⟨h1, h2, h3, h4⟩ := ok_cons h
   obtain ⟨g1, g2⟩ := (okR_app _ _ _).1 h2
   obtain ⟨m1, m2, m3, _⟩ := ok_cons g2
   have k1 := evF_kd t n _ _ _ g1
   have q0 := h1
   unfold stepP at q0
   rw [if_neg (by rw [nodeX_open h46]; decide), if_pos (nodeX_open h46)] at q0
   obtain ⟨o1, o2⟩ := kd_open s _ q0
   rw [nodeX_kind h46] at o1 o2
   have q1 : stepP s (nodeX (rd_T56 t a)) = opensP s (nodeX (rd_T56 t a)) := by
    unfold stepP
    rw [if_neg (by rw [nodeX_open h46]; decide), if_pos (nodeX_open h46)]
   rw [q1] at g1 k1 m1 m2
   rcases Nat.eq_or_lt_of_le hi1 with rfl | hi3
   ·have := may_ok o1
    rw [hk] at this
    rw [hpar]
    exact this
   ·by_cases hi4 : i < a + sz t a
    ·refine ev_local t hN n (a + 1) (a + sz t a) (a + 1) _ (hL.inner hN hlt) (by omega) (by omega) ?_ g1 i (by omega) hi4
     rw [topP_kind, o2]
     unfold kdOf
     rw [if_neg (by omega), show ((a + 1 : Nat) : Int) - 1 = (a : Int) from by omega]
     simp
    ·refine ev_local t hN n (a + sz t a) e s0 _ hnx (by omega) (by omega) ?_ m2 i (by omega) hi2
     rw [step_shut] at m1 ⊢
     have q3 := kd_shut _ _ m1
     rw [k1, o2, List.dropLast_concat] at q3
     rw [topP_kind, q3, ← topP_kind]
     exact hk
theorem check_nst {t : List S56} (h : checkP t = 0) : Nst t := by
 obtain ⟨h1, h2, h3⟩ := check_parts h
 exact Nst.of h2 fun x hx h46 => plain_one (h1 x hx) h46
theorem check_local {t : List S56} (h : checkP t = 0) : ∀ i : Nat, i < t.length → okP (kdOf t (par t i)) (rd_T56 t i).f0 = true := by
 obtain ⟨h1, h2, h3⟩ := check_parts h
 rw [events_F t (fun x hx h46 => plain_one (h1 x hx) h46) h2] at h3
 exact fun i hi => ev_local t (check_nst h) t.length 0 t.length 0 bld0 (Lvl.root t) (by omega) (by omega) rfl h3 i (by omega) hi
theorem flG_ge (t : List S56) (i q : Nat) (h : fl t q = true ∧ i < q + sz t q) : ∀ m : Nat, q < m → (q : Int) ≤ flG t i m
 | 0, hm => by omega
 | m + 1, hm => by
  by_cases e : fl t m = true ∧ i < m + sz t m
  ·rw [flG_yes t i m e]; omega
  ·rw [flG_no t i m e]
   rcases Nat.eq_or_lt_of_le (Nat.lt_succ_iff.1 hm) with e2 | e2
   ·subst e2; exact absurd h e
   ·exact flG_ge t i q h m e2
theorem ok_inner : ∀ a : Fin 256, ∀ c ∈ [(46 : Int), 101, 115], okP (a.val : Int) c = true → a.val ≠ 0 ∧ (flowedB (a.val : Int) = true ∨ (a.val : Int) = 101 ∨ (a.val : Int) = 115) := by decide +kernel
theorem par_in (t : List S56) (i : Nat) : ∀ m : Nat, parG t i m = -1 ∨ ∃ p : Nat, parG t i m = p ∧ p < m ∧ i < p + sz t p
 | 0 => .inl rfl
 | m + 1 => by
  unfold parG
  by_cases h : i < m + sz t m
  ·rw [if_pos h]
   exact .inr ⟨m, rfl, Nat.lt_succ_self m, h⟩
  ·rw [if_neg h]
   rcases par_in t i m with h1 | ⟨p, h1, h2, h3⟩
   ·exact .inl h1
   ·exact .inr ⟨p, h1, by omega, h3⟩
theorem home_of (t : List S56) (hN : Nst t) (hk : ∀ i, i < t.length → 0 ≤ (rd_T56 t i).f0 ∧ (rd_T56 t i).f0 ≤ 255) (hl : ∀ i : Nat, i < t.length → okP (kdOf t (par t i)) (rd_T56 t i).f0 = true) :
  ∀ (n i : Nat), i ≤ n → i < t.length → (rd_T56 t i).f0 ∈ [(46 : Int), 101, 115] → 0 ≤ flow t i
 | n, i, hn, hi, hc => by
  have h1 := hl i hi
  rcases par_in t i i with h2 | ⟨p, h2, h3, h4⟩
  ·have e : kdOf t (par t i) = 0 := by
    unfold kdOf par
    rw [h2]
    rfl
   rw [e] at h1
   exact absurd rfl (ok_inner 0 _ hc h1).1
  ·have e : kdOf t (par t i) = (rd_T56 t p).f0 := by
    unfold kdOf par
    rw [h2, if_neg (by omega)]
   rw [e] at h1
   have hkp := hk p (by omega)
   have h5 := ok_inner ⟨(rd_T56 t p).f0.toNat, by omega⟩ _ hc (by
    show okP (((rd_T56 t p).f0.toNat : Nat) : Int) _ = true
    rw [Int.toNat_of_nonneg hkp.1]
    exact h1)
   simp only [Int.toNat_of_nonneg hkp.1] at h5
   rcases h5.2 with h6 | h6
   ·have := flG_ge t i p ⟨h6, h4⟩ i h3
    unfold flow
    omega
   ·obtain ⟨n, rfl⟩ : ∃ m, n = m + 1 := ⟨n - 1, by omega⟩
    have h7 := home_of t hN hk hl n p (by omega) (by omega) (by rcases h6 with h6 | h6 <;> rw [h6] <;> simp)
    obtain ⟨q, hq⟩ : ∃ q : Nat, flow t p = q := ⟨(flow t p).toNat, by omega⟩
    obtain ⟨k1, k2, k3⟩ := flow_in t p q hq
    have k4 := hN.nest q p (by omega) k2 k3
    have := flG_ge t i q ⟨k1, by omega⟩ i (by omega)
    unfold flow
    omega
theorem plain_nz : ∀ c : Fin 256, plainP (c.val : Int) = true → c.val ≠ 0 := by decide +kernel
theorem check_bytes {t : List S56} (h : checkP t = 0) : ∀ q, q < t.length → isT t q = true → ∀ k : Nat, k < (rd_T56 t q).f1.size → plainP (bt (rd_T56 t q).f1 k) = true := by
 intro q hq hT k hk
 obtain ⟨h1, _, _⟩ := check_parts h
 have h2 := h1 (rd_T56 t q) (by rw [rd_get t q hq]; exact List.getElem_mem hq)
 have h46 : (rd_T56 t q).f0 = 46 := by unfold isT at hT; exact beq_iff_eq.1 hT
 rw [plainB_node, Bool.and_eq_true] at h2
 have h3 := h2.1
 unfold nodeB at h3
 rw [if_pos h46, Bool.and_eq_true, Bool.not_eq_true', decide_eq_false_iff_not] at h3
 exact plainTo_in _ (rd_T56 t q).f1.size 0 k (Nat.zero_le _) (by omega)
theorem check_txt {t : List S56} (h : checkP t = 0) (hk : NodesOk t) (hlen : t.length ≤ 3000) (hs : ∀ i, i < t.length → (rd_T56 t i).f1.size ≤ 10000) : Txt t := by
 have hkd : ∀ i, i < t.length → 0 ≤ (rd_T56 t i).f0 ∧ (rd_T56 t i).f0 ≤ 255 := fun i hi => (hk _ (by rw [rd_get t i hi]; exact List.getElem_mem hi)).2
 have hN := check_nst h
 refine ⟨hN, hlen, hs, hkd, fun q hq hT k hk2 => ?_, fun q hq hT => ?_⟩
 ·have h1 := check_bytes h q hq hT k hk2
  have hr := bt_range (rd_T56 t q).f1 k
  have := plain_nz ⟨(bt (rd_T56 t q).f1 k).toNat, by omega⟩ (by
   show plainP (((bt (rd_T56 t q).f1 k).toNat : Nat) : Int) = true
   rw [Int.toNat_of_nonneg hr.1]
   exact h1)
  simp only at this
  omega
 ·refine home_of t hN hkd (check_local h) q q (Nat.le_refl _) hq ?_
  have : (rd_T56 t q).f0 = 46 := by unfold isT at hT; exact beq_iff_eq.1 hT
  rw [this]
  simp
def eT (o : Opn) : Opn := { o with text := 0 }
def eR (r : List Opn) : List Opn := r.map eT
theorem eR_modify {f : Opn → Opn} (hf : ∀ o, eT (f o) = f (eT o)) (r : List Opn) (j : Nat) : eR (r.modify j f) = (eR r).modify j f := by
 refine List.ext_getElem? fun i => ?_
 unfold eR
 simp only [List.getElem?_map, List.getElem?_modify]
 cases r[i]? with
 | none => rfl
 | some o => by_cases e : j = i <;> simp [e, hf]
theorem eR_text (n : Int) (r : List Opn) (j : Nat) : eR (r.modify j (textF n)) = eR r := by
 refine List.ext_getElem? fun i => ?_
 unfold eR
 simp only [List.getElem?_map, List.getElem?_modify]
 cases r[i]? with
 | none => rfl
 | some o => by_cases e : j = i <;> simp [e, eT, textF]
theorem eR_len (r : List Opn) : (eR r).length = r.length := by simp [eR]
theorem eR_top (r : List Opn) : topP (eR r) = eT (topP r) := by
 unfold topP eR
 rw [List.getLast?_map]
 cases r.getLast? <;> rfl
theorem eR_getD (r : List Opn) (j : Nat) : (eR r).getD j zOpn = eT (r.getD j zOpn) := by
 unfold eR
 rw [List.getD_eq_getElem?_getD, List.getD_eq_getElem?_getD, List.getElem?_map]
 cases r[j]? <;> rfl
theorem eR_has (k : Int) (r : List Opn) : hasP k (eR r) = hasP k r := by
 unfold hasP eR
 rw [List.filter_map, List.length_map]
 rfl
theorem eR_around (ks : List Int) (r : List Opn) : ∀ n : Nat, aroundP ks (eR r) n = aroundP ks r n
 | 0 => rfl
 | n + 1 => by
  unfold aroundP
  rw [eR_getD, eR_around ks r n]
  rfl
theorem eR_may (r : List Opn) (k : Int) : mayP (eR r) k = mayP r k := by
 unfold mayP
 rw [eR_top, eR_has, eR_has, eR_has, eR_len, eR_around]
 cases aroundP flowK r r.length with
 | none => rfl
 | some j =>
  simp only [eR_getD]
  rfl
theorem eR_kid (r : List Opn) : eR (kidP r) = kidP (eR r) := by
 unfold kidP
 rw [eR_len]
 exact eR_modify (f := kidF) (fun _ => rfl) r _
theorem eR_mark (r : List Opn) (k : Int) : eR (markP r k) = markP (eR r) k := by
 unfold markP
 rw [eR_len, eR_around]
 split
 ·split
  ·exact eR_modify (f := noteF) (fun _ => rfl) r _
  ·rfl
 ·split
  ·exact eR_modify (f := pastF) (fun _ => rfl) r _
  ·rfl
theorem eR_whole (r : List Opn) (o : Opn) : eR (wholeP r o).1 = (wholeP (eR r) (eT o)).1 ∧ (wholeP r o).2 = (wholeP (eR r) (eT o)).2 := by
 unfold wholeP
 rw [eR_len, eR_around]
 show _ = (if o.kind = 108 ∨ o.kind = 116 then _ else _ : List Opn × Bool).1 ∧ _ = (if o.kind = 108 ∨ o.kind = 116 then _ else _ : List Opn × Bool).2
 by_cases h1 : o.kind = 108 ∨ o.kind = 116
 ·rw [if_pos h1, if_pos h1]
  exact ⟨rfl, rfl⟩
 ·rw [if_neg h1, if_neg h1]
  show _ = (if o.kind = 114 then _ else _ : List Opn × Bool).1 ∧ _ = (if o.kind = 114 then _ else _ : List Opn × Bool).2
  by_cases h2 : o.kind = 114
  ·rw [if_pos h2, if_pos h2]
   cases aroundP [116] r r.length with
   | none => exact ⟨rfl, rfl⟩
   | some j =>
    simp only
    rw [eR_getD]
    show _ = (if (r.getD j zOpn).cols = 0 then _ else _ : List Opn × Bool).1 ∧ _ = (if (r.getD j zOpn).cols = 0 then _ else _ : List Opn × Bool).2
    by_cases h3 : (r.getD j zOpn).cols = 0
    ·rw [if_pos h3, if_pos h3]
     exact ⟨eR_modify (f := colsF o.kids) (fun _ => rfl) r _, rfl⟩
    ·rw [if_neg h3, if_neg h3]
     exact ⟨rfl, rfl⟩
  ·rw [if_neg h2, if_neg h2]
   exact ⟨rfl, rfl⟩
structure EqT (s u : Bld) : Prop where
 row : eR s.row = eR u.row
 len : s.t.length = u.t.length
theorem EqT.rows {s u : Bld} (h : EqT s u) : s.row.length = u.row.length := by
 have := congrArg List.length h.row
 rwa [eR_len, eR_len] at this
theorem EqT.may {s u : Bld} (h : EqT s u) (k : Int) : mayP s.row k = mayP u.row k := by rw [← eR_may s.row, ← eR_may u.row, h.row]
def near (a b : Int) : Prop := a = b ∨ ((a = 0 ∨ a = 4) ∧ (b = 0 ∨ b = 4))
def eX2 (x : S47) : S47 := { x with f2 := ⟨#[]⟩ }
theorem eX2_parts {x y : S47} (h : eX2 x = eX2 y) : x.f0 = y.f0 ∧ x.f1 = y.f1 ∧ x.f3 = y.f3 := by
 unfold eX2 at h
 simp only [S47.mk.injEq, true_and] at h
 exact ⟨h.1, h.2.1, h.2.2⟩
theorem near_step {s u : Bld} (h : EqT s u) {x y : S47} (hx : eX2 x = eX2 y) (ht : x.f0 = 1 → mayP s.row 46 = true) : near (stepP s x).2.2 (stepP u y).2.2 ∧ EqT (stepP s x).1 (stepP u y).1 := by
 obtain ⟨h0, h1, h3⟩ := eX2_parts hx
 unfold stepP
 rw [← h0]
 by_cases e1 : x.f0 = 1
 ·rw [if_pos e1, if_pos e1]
  have hm := ht e1
  have hm2 : mayP u.row 46 = true := by rw [← h.may]; exact hm
  unfold textsP
  rw [if_pos hm, if_pos hm2]
  have hk : eR (kidP s.row) = eR (kidP u.row) := by rw [eR_kid, eR_kid, h.row]
  have ha : aroundP [110] (kidP s.row) (kidP s.row).length = aroundP [110] (kidP u.row) (kidP u.row).length := by
   rw [← eR_around, ← eR_around [110] (kidP u.row), hk]
   congr 1
   rw [← eR_len, ← eR_len (kidP u.row), hk]
  rw [ha]
  have hz : ∀ (p : Prop) [Decidable p], (if p then (4 : Int) else 0) = 0 ∨ (if p then (4 : Int) else 0) = 4 := fun p _ => by
   by_cases hp : p
   ·exact .inr (if_pos hp)
   ·exact .inl (if_neg hp)
  cases aroundP [110] (kidP u.row) (kidP u.row).length with
  | none => exact ⟨.inr ⟨hz _, hz _⟩, hk, by simp [h.len]⟩
  | some j => exact ⟨.inr ⟨hz _, hz _⟩, by rw [eR_text, eR_text]; exact hk, by simp [h.len]⟩
 ·rw [if_neg e1, if_neg e1]
  by_cases e2 : x.f0 = 2
  ·rw [if_pos e2, if_pos e2]
   unfold opensP
   rw [← h1, ← h.may]
   by_cases hm : mayP s.row x.f1 = true
   ·rw [if_pos hm, if_pos hm]
    have hr : eR (kidP (markP s.row x.f1) ++ [⟨x.f1, s.t.length, 0, 0, false, 0, 0⟩]) = eR (kidP (markP u.row x.f1) ++ [⟨x.f1, u.t.length, 0, 0, false, 0, 0⟩]) := by
     unfold eR
     rw [List.map_append, List.map_append]
     have e := eR_kid (markP s.row x.f1)
     have e' := eR_kid (markP u.row x.f1)
     rw [eR_mark, h.row] at e
     rw [eR_mark] at e'
     unfold eR at e e'
     rw [e, e', h.len]
    refine ⟨.inl ?_, hr, by simp [h.len]⟩
    show (if 32 < s.row.length + 1 ∨ 8 < hasP 108 _ then (5 : Int) else if 2000 < s.t.length + 1 then 4 else 0) = (if 32 < u.row.length + 1 ∨ 8 < hasP 108 _ then (5 : Int) else if 2000 < u.t.length + 1 then 4 else 0)
    rw [← eR_has, hr, eR_has, h.rows, h.len]
   ·rw [if_neg hm, if_neg hm]
    exact ⟨.inl rfl, h⟩
  ·rw [if_neg e2, if_neg e2]
   unfold shutsP
   by_cases hr : s.row = []
   ·have hr2 : u.row = [] := by have := h.rows; rw [hr] at this; exact List.length_eq_zero_iff.1 this.symm
    rw [if_pos hr, if_pos hr2]
    exact ⟨.inl rfl, h⟩
   ·have hr2 : ¬ u.row = [] := fun h2 => hr (by have := h.rows; rw [h2] at this; exact List.length_eq_zero_iff.1 this)
    rw [if_neg hr, if_neg hr2]
    have hd : eR s.row.dropLast = eR u.row.dropLast := by
     have := congrArg List.dropLast h.row
     unfold eR at this ⊢
     rwa [← List.map_dropLast, ← List.map_dropLast] at this
    have ht2 : eT (topP s.row) = eT (topP u.row) := by rw [← eR_top, h.row, eR_top]
    obtain ⟨w1, w2⟩ := eR_whole s.row.dropLast (topP s.row)
    obtain ⟨w3, w4⟩ := eR_whole u.row.dropLast (topP u.row)
    rw [hd, ht2] at w1 w2
    refine ⟨.inl ?_, w1.trans w3.symm, by simp [h.len]⟩
    show (if (wholeP s.row.dropLast (topP s.row)).2 = true then (0 : Int) else 2) = (if (wholeP u.row.dropLast (topP u.row)).2 = true then (0 : Int) else 2)
    rw [w2, w4]
def OutOk (a : Int) : Prop := a = 0 ∨ a = 4 ∨ a = 5
theorem near_worse {a b e f : Int} (ha : OutOk a) (hb : OutOk b) (he : ErrSet e) (hf : ErrSet f) (h1 : near a b) (h2 : near e f) : near (worseP a e) (worseP b f) ∧ (worseP a e = 2 ∨ OutOk (worseP a e)) ∧ (worseP b f = 2 ∨ OutOk (worseP b f)) := by
 unfold near OutOk at *
 unfold ErrSet at he hf
 rcases ha with rfl | rfl | rfl <;> rcases hb with rfl | rfl | rfl <;> rcases he with rfl | rfl | rfl | rfl <;> rcases hf with rfl | rfl | rfl | rfl <;> revert h1 h2 <;> decide
theorem near_go : ∀ (l m : List S47) (s u : Bld) (a b : Int), l.map eX2 = m.map eX2 → EqT s u → OutOk a → OutOk b → near a b → near (checkGo s a l) (checkGo u b m)
 | [], m, s, u, a, b, hl, h, ha, hb, hab => by
  obtain rfl : m = [] := by
   cases m with
   | nil => rfl
   | cons y m => cases hl
  exact hab
 | x :: l, [], s, u, a, b, hl, h, ha, hb, hab => by cases hl
 | x :: l, y :: m, s, u, a, b, hl, h, ha, hb, hab => by
  obtain ⟨hx, hl⟩ := List.cons.inj hl
  have h0 := (eX2_parts hx).1
  unfold checkGo
  have hc : (x.f0 == 1 && !mayP s.row 46) = (y.f0 == 1 && !mayP u.row 46) := by rw [h0, h.may]
  rw [← hc]
  by_cases h1 : (x.f0 == 1 && !mayP s.row 46) = true
  ·rw [if_pos h1, if_pos h1]
   exact .inl rfl
  ·rw [if_neg h1, if_neg h1]
   have ht : x.f0 = 1 → mayP s.row 46 = true := fun e => by
    rw [e] at h1
    simpa using h1
   obtain ⟨n1, n2⟩ := near_step h hx ht
   obtain ⟨m1, m2, m3⟩ := near_worse ha hb (stepP_err s x) (stepP_err u y) hab n1
   by_cases w1 : worseP a (stepP s x).2.2 = 2
   ·have w2 : worseP b (stepP u y).2.2 = 2 := by
     rw [w1] at m1
     rcases m1 with e | ⟨e | e, _⟩
     ·exact e.symm
     ·cases e
     ·cases e
    rw [if_pos w1, if_pos w2]
    exact .inl rfl
   ·have w2 : ¬ worseP b (stepP u y).2.2 = 2 := fun e => by
     rw [e] at m1
     rcases m1 with e | ⟨_, e | e⟩
     ·exact w1 e
     ·cases e
     ·cases e
    rw [if_neg w1, if_neg w2]
    exact near_go l m _ _ _ _ hl n2 (m2.resolve_left w1) (m3.resolve_left w2) m1
def gN (y : S56) : S56 := { y with f1 := ⟨#[]⟩, f2 := 0 }
theorem gN_parts {x y : S56} (h : gN x = gN y) : x.f0 = y.f0 ∧ x.f3 = y.f3 := by
 unfold gN at h
 simp only [S56.mk.injEq, true_and] at h
 exact h
theorem gN_node {x y : S56} (h : gN x = gN y) : eX2 (nodeX x) = eX2 (nodeX y) := by
 obtain ⟨h0, h3⟩ := gN_parts h
 unfold nodeX
 rw [h0]
 split <;> rfl
theorem closeE_map : ∀ (n : Nat) (o o' : List S47) (e : List Int) (i : Int), o.map eX2 = o'.map eX2 → (closeE n o e i).1.map eX2 = (closeE n o' e i).1.map eX2 ∧ (closeE n o e i).2 = (closeE n o' e i).2
 | 0, o, o', e, i, h => ⟨h, rfl⟩
 | n + 1, o, o', e, i, h => by
  unfold closeE
  by_cases hc : e ≠ [] ∧ rd e ((e.length : Int) - 1) = i
  ·rw [if_pos hc, if_pos hc]
   exact closeE_map n _ _ _ i (by rw [List.map_append, List.map_append, h])
  ·rw [if_neg hc, if_neg hc]
   exact ⟨h, rfl⟩
theorem evRun_map : ∀ (l m : List S56) (i : Nat) (s s' : List S47 × List Int), l.map gN = m.map gN → s.1.map eX2 = s'.1.map eX2 → s.2 = s'.2 → (evRun l i s).1.map eX2 = (evRun m i s').1.map eX2 ∧ (evRun l i s).2 = (evRun m i s').2
 | [], m, i, s, s', hl, h1, h2 => by
  obtain rfl : m = [] := by
   cases m with
   | nil => rfl
   | cons y m => cases hl
  exact ⟨h1, h2⟩
 | x :: l, [], i, s, s', hl, h1, h2 => by cases hl
 | x :: l, y :: m, i, s, s', hl, h1, h2 => by
  obtain ⟨hx, hl⟩ := List.cons.inj hl
  obtain ⟨g0, g3⟩ := gN_parts hx
  have hc := closeE_map s.2.length s.1 s'.1 s.2 i h1
  refine evRun_map l m (i + 1) _ _ hl ?_ ?_
  ·unfold evStep
   rw [List.map_append, List.map_append, ← h2, hc.1, List.map_singleton, List.map_singleton, gN_node hx]
  ·unfold evStep
   rw [← h2, hc.2, g0, g3]
theorem events_map {t u : List S56} (h : t.map gN = u.map gN) : (eventsP t).map eX2 = (eventsP u).map eX2 := by
 obtain ⟨h1, h2⟩ := evRun_map t u 0 ([], []) ([], []) h rfl rfl
 unfold eventsP
 rw [List.map_append, List.map_append, h1, h2]
theorem rd_map {t u : List S56} (h : t.map gN = u.map gN) (i : Int) : gN (rd_T56 t i) = gN (rd_T56 u i) := by
 have e : ∀ t : List S56, gN (rd_T56 t i) = (t.map gN).getD i.toNat (gN z56) := fun t => by
  unfold rd_T56
  rw [List.getD_eq_getElem?_getD, List.getD_eq_getElem?_getD, List.getElem?_map]
  cases t[i.toNat]? <;> rfl
 rw [e, e, h]
theorem sizedB_map {t u : List S56} (h : t.map gN = u.map gN) : ∀ (n a e : Nat), sizedB n t a e = sizedB n u a e
 | 0, a, e => rfl
 | n + 1, a, e => by
  have h3 := (gN_parts (rd_map h (a : Int))).2
  simp only [sizedB]
  rw [h3, sizedB_map h n, sizedB_map h n]
theorem near_check {t u : List S56} (h : t.map gN = u.map gN) (hp : (t.any fun x => !plainB x) = (u.any fun x => !plainB x)) : near (checkP t) (checkP u) := by
 have hl : t.length = u.length := by have := congrArg List.length h; simpa using this
 unfold checkP sizedT
 rw [hp, hl, sizedB_map h]
 split
 ·exact .inl rfl
 ·exact near_go _ _ _ _ _ _ (events_map h) ⟨rfl, rfl⟩ (.inl rfl) (.inl rfl) (.inl rfl)
end Go.Proofs.Ythcmfjpheanphaa.Pr
namespace Go.Proofs.Ythcmfjpheanphaa.Pr
open Go.RowKit Go.Proofs.YthcmfjpheanphaaW.PrintWords Go.Proofs.YthcmfjpheanphaaW.PrintLast Go.Proofs.YthcmfjpheanphaaW.PrintMore
attribute [local go_sem] max2_int min2_int max_two min_two max_three min_three max_four min_four
def stylusref04_Same.l0 : Nat → List (S56) → List (S56) → Int → Option (Bool)
 | 0, _, _, _ => none
 | k + 1, x0, x1, x5 => if x5 < (x0.length : Int) then (if 0 ≤ x5 then (if x5 < (x1.length : Int) then (if ((rd_T56 x0 x5).f0) = ((rd_T56 x1 x5).f0) then (if ((rd_T56 x0 x5).f1).toList = ((rd_T56 x1 x5).f1).toList then (if ((rd_T56 x0 x5).f3) = ((rd_T56 x1 x5).f3) then (stylusref04_Same.l0 k x0 x1 (wrap64 (x5 + 1))) else (some false)) else (some false)) else (some false)) else (none)) else (none)) else (some true)
def stylusref04_Same.f (k : Nat) (l0 : List (S56)) (l1 : List (S56)) : Option (Bool) := if (l0.length : Int) = (l1.length : Int) then (stylusref04_Same.l0 k l0 l1 0) else (some false)
theorem stylusref04_Same.mono_l : ∀ k, (∀ y0 y1 y2, LeO (stylusref04_Same.l0 k y0 y1 y2) (stylusref04_Same.l0 (k + 1) y0 y1 y2))
 | 0 => fun _ _ _ r h => by simp [stylusref04_Same.l0] at h
 | k + 1 => by
  have ih0 := stylusref04_Same.mono_l k
  ·intro y0 y1 y2
   unfold stylusref04_Same.l0
   repeat' first
   | (with_reducible exact ih0 _ _ _)
   | (with_reducible exact LeO.refl _)
   | (with_reducible exact LeO.none _)
   | (with_reducible refine LeO.ite ?_ ?_)
   | (with_reducible refine LeO.bind ?_ (fun _ => ?_))
   | exact ih0 _ _ _
   | exact LeO.none _
   | refine LeO.ite ?_ ?_
   | refine LeO.bind ?_ (fun _ => ?_)
theorem stylusref04_Same.mono : ∀ a0 a1 k, LeO (stylusref04_Same.f k a0 a1) (stylusref04_Same.f (k + 1) a0 a1) := by
 intro a0 a1 k
 have ih0 := stylusref04_Same.mono_l k
 unfold stylusref04_Same.f
 repeat' first
   | (with_reducible exact ih0 _ _ _)
   | (with_reducible exact LeO.refl _)
   | (with_reducible exact LeO.none _)
   | (with_reducible refine LeO.ite ?_ ?_)
   | (with_reducible refine LeO.bind ?_ (fun _ => ?_))
   | exact ih0 _ _ _
   | exact LeO.none _
   | refine LeO.ite ?_ ?_
   | refine LeO.bind ?_ (fun _ => ?_)
set_option maxHeartbeats 8000000 in
set_option maxRecDepth 100000 in
theorem stylusref04_Same.calls (k : Nat) (A0 : Option Addr) (c0 : Nat) (l0 : List (S56)) (A1 : Option Addr) (c1 : Nat) (l1 : List (S56)) (r : Bool) (w : World) (hr0 : Kd.C k56 w A0 l0.length l0) (hc0 : l0.length ≤ c0) (hr1 : Kd.C k56 w A1 l1.length l1) (hc1 : l1.length ≤ c1) (h : stylusref04_Same.f k l0 l1 = some r) :
  Calls Try.prog 61 #[.slice A0 l0.length c0, .slice A1 l1.length c1] w fun e w' => e = .returned (.bool r) ∧ Drawn0 w w' := by
 have HR0 := Aside0.mk hr0
 have HC0 := Aside0.mk hc0
 clear hr0 hc0
 have HR1 := Aside0.mk hr1
 have HC1 := Aside0.mk hc1
 clear hr1 hc1
 have H : (if (l0.length : Int) = (l1.length : Int) then (stylusref04_Same.l0 k l0 l1 0) else (some false)) = some r := h
 clear h
 by_cases c3 : (l0.length : Int) = (l1.length : Int)
 ·rw [if_pos c3] at H
  have c3b0 : ((l0.length : Int) == (l1.length : Int)) = true := beq_iff_eq.mpr c3
  have c3b1 : ((l0.length : Int) != (l1.length : Int)) = false := bne_eq_false_iff_eq.mpr c3
  have c3b2 : (l0.length == l1.length) = true := by first | simpa using c3 | (simp at c3 ⊢; omega)
  clear c3
  have H' := Aside0.mk H
  clear H
  go_enter Try.func61, Try.ntmps61
  go_wp2
  repeat (go_quiet (fail); try go_wp2)
  go_loopg [5] k (fun kq v5 w' => ∃ (x5_1 : Int), v5 = .int .i64 x5_1 ∧ Aside0 (stylusref04_Same.l0 kq l0 l1 x5_1 = some r) ∧ Aside0 (kq ≤ k) ∧ Drawn0 w w')
  case atStart => exact ⟨(0), (by first | rfl | (simp; done) | (simp [*]; done)), H', ⟨Nat.le_refl _⟩, by repeat (first | exact Drawn0.refl _ | apply Drawn0.step)⟩
  case round =>
   clear H'
   try clear c1
   try clear p2
   try clear c3
   try clear c3b0
   try clear c3b1
   try clear c3b2
   obtain ⟨x5_1, rfl, HA, HK1, ⟨m1, rfl⟩⟩ := hrel
   cases gk with
   | zero => exact absurd HA.out (by simp [stylusref04_Same.l0])
   | succ k1 =>
    have H := HA.out
    clear HA
    simp only [stylusref04_Same.l0] at H
    by_cases c4 : x5_1 < (l0.length : Int)
    ·rw [if_pos c4] at H
     have c4b0 : decide (x5_1 < (l0.length : Int)) = true := decide_eq_true c4
     clear c4
     by_cases c5 : 0 ≤ x5_1
     ·rw [if_pos c5] at H
      have c5b0 : decide (0 ≤ x5_1) = true := decide_eq_true c5
      clear c5
      by_cases c6 : x5_1 < (l1.length : Int)
      ·rw [if_pos c6] at H
       have c6b0 : decide (x5_1 < (l1.length : Int)) = true := decide_eq_true c6
       clear c6
       by_cases c7 : ((rd_T56 l0 x5_1).f0) = ((rd_T56 l1 x5_1).f0)
       ·rw [if_pos c7] at H
        have c7b0 : (((rd_T56 l0 x5_1).f0) == ((rd_T56 l1 x5_1).f0)) = true := beq_iff_eq.mpr c7
        have c7b1 : (((rd_T56 l0 x5_1).f0) != ((rd_T56 l1 x5_1).f0)) = false := bne_eq_false_iff_eq.mpr c7
        clear c7
        by_cases c8 : ((rd_T56 l0 x5_1).f1).toList = ((rd_T56 l1 x5_1).f1).toList
        ·rw [if_pos c8] at H
         have c8b0 : (((rd_T56 l0 x5_1).f1).toList == ((rd_T56 l1 x5_1).f1).toList) = true := beq_iff_eq.mpr c8
         have c8b1 : (((rd_T56 l0 x5_1).f1).toList != ((rd_T56 l1 x5_1).f1).toList) = false := bne_eq_false_iff_eq.mpr c8
         clear c8
         by_cases c9 : ((rd_T56 l0 x5_1).f3) = ((rd_T56 l1 x5_1).f3)
         ·rw [if_pos c9] at H
          have c9b0 : (((rd_T56 l0 x5_1).f3) == ((rd_T56 l1 x5_1).f3)) = true := beq_iff_eq.mpr c9
          have c9b1 : (((rd_T56 l0 x5_1).f3) != ((rd_T56 l1 x5_1).f3)) = false := bne_eq_false_iff_eq.mpr c9
          clear c9
          have H' := Aside0.mk H
          clear H
          have p216 : 0 ≤ (x5_1 : Int) := of_decide_eq_true (by first | (with_reducible assumption) | assumption)
          have q216 : x5_1 < (l0.length : Int) := of_decide_eq_true (by first | (with_reducible assumption) | assumption)
          obtain ⟨ad216, e216, hx216_0, hx216_1, hx216_2, hx216_3⟩ := at_T56 HR0.out x5_1 p216 q216
          cases e216
          replace p216 := eq_true p216
          replace q216 := eq_true q216
          have p217 : 0 ≤ (x5_1 : Int) := of_decide_eq_true (by first | (with_reducible assumption) | assumption)
          have q217 : x5_1 < (l1.length : Int) := of_decide_eq_true (by first | (with_reducible assumption) | assumption)
          obtain ⟨ad217, e217, hx217_0, hx217_1, hx217_2, hx217_3⟩ := at_T56 HR1.out x5_1 p217 q217
          cases e217
          replace p217 := eq_true p217
          replace q217 := eq_true q217
          have p218 : 0 ≤ (x5_1 : Int) := of_decide_eq_true (by first | (with_reducible assumption) | assumption)
          have q218 : x5_1 < (l0.length : Int) := of_decide_eq_true (by first | (with_reducible assumption) | assumption)
          obtain ⟨ad218, e218, hx218_0, hx218_1, hx218_2, hx218_3⟩ := at_T56 HR0.out x5_1 p218 q218
          obtain rfl : ad216 = ad218 := (by injection e218)
          replace p218 := eq_true p218
          replace q218 := eq_true q218
          have p219 : 0 ≤ (x5_1 : Int) := of_decide_eq_true (by first | (with_reducible assumption) | assumption)
          have q219 : x5_1 < (l1.length : Int) := of_decide_eq_true (by first | (with_reducible assumption) | assumption)
          obtain ⟨ad219, e219, hx219_0, hx219_1, hx219_2, hx219_3⟩ := at_T56 HR1.out x5_1 p219 q219
          obtain rfl : ad217 = ad219 := (by injection e219)
          replace p219 := eq_true p219
          replace q219 := eq_true q219
          have p220 : 0 ≤ (x5_1 : Int) := of_decide_eq_true (by first | (with_reducible assumption) | assumption)
          have q220 : x5_1 < (l0.length : Int) := of_decide_eq_true (by first | (with_reducible assumption) | assumption)
          obtain ⟨ad220, e220, hx220_0, hx220_1, hx220_2, hx220_3⟩ := at_T56 HR0.out x5_1 p220 q220
          obtain rfl : ad216 = ad220 := (by injection e220)
          replace p220 := eq_true p220
          replace q220 := eq_true q220
          have p221 : 0 ≤ (x5_1 : Int) := of_decide_eq_true (by first | (with_reducible assumption) | assumption)
          have q221 : x5_1 < (l1.length : Int) := of_decide_eq_true (by first | (with_reducible assumption) | assumption)
          obtain ⟨ad221, e221, hx221_0, hx221_1, hx221_2, hx221_3⟩ := at_T56 HR1.out x5_1 p221 q221
          obtain rfl : ad217 = ad221 := (by injection e221)
          replace p221 := eq_true p221
          replace q221 := eq_true q221
          go_wp2
          repeat (go_quiet (fail); try go_wp2)
          go_roundg k1
          case measure => have := HK1.out; omega
          case rel => exact ⟨(wrap64 (x5_1 + 1)), (by first | rfl | (simp; done) | (simp [*]; done)), H', ⟨by have := HK1.out; omega⟩, by repeat (first | exact Drawn0.refl _ | apply Drawn0.step)⟩
         ·rw [if_neg c9] at H
          have c9b0 : (((rd_T56 l0 x5_1).f3) == ((rd_T56 l1 x5_1).f3)) = false := beq_eq_false_iff_ne.mpr c9
          have c9b1 : (((rd_T56 l0 x5_1).f3) != ((rd_T56 l1 x5_1).f3)) = true := bne_iff_ne.mpr c9
          obtain rfl := Option.some.inj H
          have p216 : 0 ≤ (x5_1 : Int) := of_decide_eq_true (by first | (with_reducible assumption) | assumption)
          have q216 : x5_1 < (l0.length : Int) := of_decide_eq_true (by first | (with_reducible assumption) | assumption)
          obtain ⟨ad216, e216, hx216_0, hx216_1, hx216_2, hx216_3⟩ := at_T56 HR0.out x5_1 p216 q216
          cases e216
          replace p216 := eq_true p216
          replace q216 := eq_true q216
          have p217 : 0 ≤ (x5_1 : Int) := of_decide_eq_true (by first | (with_reducible assumption) | assumption)
          have q217 : x5_1 < (l1.length : Int) := of_decide_eq_true (by first | (with_reducible assumption) | assumption)
          obtain ⟨ad217, e217, hx217_0, hx217_1, hx217_2, hx217_3⟩ := at_T56 HR1.out x5_1 p217 q217
          cases e217
          replace p217 := eq_true p217
          replace q217 := eq_true q217
          have p218 : 0 ≤ (x5_1 : Int) := of_decide_eq_true (by first | (with_reducible assumption) | assumption)
          have q218 : x5_1 < (l0.length : Int) := of_decide_eq_true (by first | (with_reducible assumption) | assumption)
          obtain ⟨ad218, e218, hx218_0, hx218_1, hx218_2, hx218_3⟩ := at_T56 HR0.out x5_1 p218 q218
          obtain rfl : ad216 = ad218 := (by injection e218)
          replace p218 := eq_true p218
          replace q218 := eq_true q218
          have p219 : 0 ≤ (x5_1 : Int) := of_decide_eq_true (by first | (with_reducible assumption) | assumption)
          have q219 : x5_1 < (l1.length : Int) := of_decide_eq_true (by first | (with_reducible assumption) | assumption)
          obtain ⟨ad219, e219, hx219_0, hx219_1, hx219_2, hx219_3⟩ := at_T56 HR1.out x5_1 p219 q219
          obtain rfl : ad217 = ad219 := (by injection e219)
          replace p219 := eq_true p219
          replace q219 := eq_true q219
          have p220 : 0 ≤ (x5_1 : Int) := of_decide_eq_true (by first | (with_reducible assumption) | assumption)
          have q220 : x5_1 < (l0.length : Int) := of_decide_eq_true (by first | (with_reducible assumption) | assumption)
          obtain ⟨ad220, e220, hx220_0, hx220_1, hx220_2, hx220_3⟩ := at_T56 HR0.out x5_1 p220 q220
          obtain rfl : ad216 = ad220 := (by injection e220)
          replace p220 := eq_true p220
          replace q220 := eq_true q220
          have p221 : 0 ≤ (x5_1 : Int) := of_decide_eq_true (by first | (with_reducible assumption) | assumption)
          have q221 : x5_1 < (l1.length : Int) := of_decide_eq_true (by first | (with_reducible assumption) | assumption)
          obtain ⟨ad221, e221, hx221_0, hx221_1, hx221_2, hx221_3⟩ := at_T56 HR1.out x5_1 p221 q221
          obtain rfl : ad217 = ad221 := (by injection e221)
          replace p221 := eq_true p221
          replace q221 := eq_true q221
          go_wp2
          repeat (go_quiet (fail); try go_wp2)
          go_ret
          exact ⟨by first | rfl | (simp; done) | (simp [*]; done), by repeat (first | exact Drawn0.refl _ | apply Drawn0.step)⟩
        ·rw [if_neg c8] at H
         have c8b0 : (((rd_T56 l0 x5_1).f1).toList == ((rd_T56 l1 x5_1).f1).toList) = false := beq_eq_false_iff_ne.mpr c8
         have c8b1 : (((rd_T56 l0 x5_1).f1).toList != ((rd_T56 l1 x5_1).f1).toList) = true := bne_iff_ne.mpr c8
         obtain rfl := Option.some.inj H
         have p216 : 0 ≤ (x5_1 : Int) := of_decide_eq_true (by first | (with_reducible assumption) | assumption)
         have q216 : x5_1 < (l0.length : Int) := of_decide_eq_true (by first | (with_reducible assumption) | assumption)
         obtain ⟨ad216, e216, hx216_0, hx216_1, hx216_2, hx216_3⟩ := at_T56 HR0.out x5_1 p216 q216
         cases e216
         replace p216 := eq_true p216
         replace q216 := eq_true q216
         have p217 : 0 ≤ (x5_1 : Int) := of_decide_eq_true (by first | (with_reducible assumption) | assumption)
         have q217 : x5_1 < (l1.length : Int) := of_decide_eq_true (by first | (with_reducible assumption) | assumption)
         obtain ⟨ad217, e217, hx217_0, hx217_1, hx217_2, hx217_3⟩ := at_T56 HR1.out x5_1 p217 q217
         cases e217
         replace p217 := eq_true p217
         replace q217 := eq_true q217
         have p218 : 0 ≤ (x5_1 : Int) := of_decide_eq_true (by first | (with_reducible assumption) | assumption)
         have q218 : x5_1 < (l0.length : Int) := of_decide_eq_true (by first | (with_reducible assumption) | assumption)
         obtain ⟨ad218, e218, hx218_0, hx218_1, hx218_2, hx218_3⟩ := at_T56 HR0.out x5_1 p218 q218
         obtain rfl : ad216 = ad218 := (by injection e218)
         replace p218 := eq_true p218
         replace q218 := eq_true q218
         have p219 : 0 ≤ (x5_1 : Int) := of_decide_eq_true (by first | (with_reducible assumption) | assumption)
         have q219 : x5_1 < (l1.length : Int) := of_decide_eq_true (by first | (with_reducible assumption) | assumption)
         obtain ⟨ad219, e219, hx219_0, hx219_1, hx219_2, hx219_3⟩ := at_T56 HR1.out x5_1 p219 q219
         obtain rfl : ad217 = ad219 := (by injection e219)
         replace p219 := eq_true p219
         replace q219 := eq_true q219
         go_wp2
         repeat (go_quiet (fail); try go_wp2)
         go_ret
         exact ⟨by first | rfl | (simp; done) | (simp [*]; done), by repeat (first | exact Drawn0.refl _ | apply Drawn0.step)⟩
       ·rw [if_neg c7] at H
        have c7b0 : (((rd_T56 l0 x5_1).f0) == ((rd_T56 l1 x5_1).f0)) = false := beq_eq_false_iff_ne.mpr c7
        have c7b1 : (((rd_T56 l0 x5_1).f0) != ((rd_T56 l1 x5_1).f0)) = true := bne_iff_ne.mpr c7
        obtain rfl := Option.some.inj H
        have p216 : 0 ≤ (x5_1 : Int) := of_decide_eq_true (by first | (with_reducible assumption) | assumption)
        have q216 : x5_1 < (l0.length : Int) := of_decide_eq_true (by first | (with_reducible assumption) | assumption)
        obtain ⟨ad216, e216, hx216_0, hx216_1, hx216_2, hx216_3⟩ := at_T56 HR0.out x5_1 p216 q216
        cases e216
        replace p216 := eq_true p216
        replace q216 := eq_true q216
        have p217 : 0 ≤ (x5_1 : Int) := of_decide_eq_true (by first | (with_reducible assumption) | assumption)
        have q217 : x5_1 < (l1.length : Int) := of_decide_eq_true (by first | (with_reducible assumption) | assumption)
        obtain ⟨ad217, e217, hx217_0, hx217_1, hx217_2, hx217_3⟩ := at_T56 HR1.out x5_1 p217 q217
        cases e217
        replace p217 := eq_true p217
        replace q217 := eq_true q217
        go_wp2
        repeat (go_quiet (fail); try go_wp2)
        go_ret
        exact ⟨by first | rfl | (simp; done) | (simp [*]; done), by repeat (first | exact Drawn0.refl _ | apply Drawn0.step)⟩
      ·rw [if_neg c6] at H
       exact absurd H (by simp)
     ·rw [if_neg c5] at H
      exact absurd H (by simp)
    ·rw [if_neg c4] at H
     have c4b0 : decide (x5_1 < (l0.length : Int)) = false := decide_eq_false c4
     clear c4
     obtain rfl := Option.some.inj H
     go_wp2
     repeat (go_quiet (fail); try go_wp2)
     go_ret
     exact ⟨by first | rfl | (simp; done) | (simp [*]; done), by repeat (first | exact Drawn0.refl _ | apply Drawn0.step)⟩
 ·rw [if_neg c3] at H
  have c3b0 : ((l0.length : Int) == (l1.length : Int)) = false := beq_eq_false_iff_ne.mpr c3
  have c3b1 : ((l0.length : Int) != (l1.length : Int)) = true := bne_iff_ne.mpr c3
  have c3b2 : (l0.length == l1.length) = false := by first | simpa using c3 | (simp at c3 ⊢; omega)
  obtain rfl := Option.some.inj H
  go_enter Try.func61, Try.ntmps61
  go_wp2
  repeat (go_quiet (fail); try go_wp2)
  go_ret
  exact ⟨by first | rfl | (simp; done) | (simp [*]; done), by repeat (first | exact Drawn0.refl _ | apply Drawn0.step)⟩
mutual
def stylusref04_Like.l0 : Nat → List (S56) → List (S56) → Int → Option (Bool)
 | 0, _, _, _ => none
 | k + 1, x0, x1, x5 => if x5 < (x0.length : Int) then (stylusref04_Like.j1 k x0 x1 x5 (decide (x5 < (x1.length : Int)))) else (stylusref04_Like.j1 k x0 x1 x5 false)
def stylusref04_Like.j1 : Nat → List (S56) → List (S56) → Int → Bool → Option (Bool)
 | 0, _, _, _, _ => none
 | k + 1, x0, x1, x5, x15 => if x15 = true then (if 0 ≤ x5 then (if x5 < (x0.length : Int) then (if x5 < (x1.length : Int) then (if ((rd_T56 x0 x5).f2) = ((rd_T56 x1 x5).f2) then (stylusref04_Like.l0 k x0 x1 (wrap64 (x5 + 1))) else (some false)) else (none)) else (none)) else (none)) else ((stylusref04_Same.f k x0 x1).bind fun t224 => (some t224))
end
def stylusref04_Like.f (k : Nat) (l0 : List (S56)) (l1 : List (S56)) : Option (Bool) := stylusref04_Like.l0 k l0 l1 0
theorem stylusref04_Like.mono_l : ∀ k, (∀ y0 y1 y2, LeO (stylusref04_Like.l0 k y0 y1 y2) (stylusref04_Like.l0 (k + 1) y0 y1 y2)) ∧ (∀ y0 y1 y2 y3, LeO (stylusref04_Like.j1 k y0 y1 y2 y3) (stylusref04_Like.j1 (k + 1) y0 y1 y2 y3))
 | 0 => ⟨fun _ _ _ r h => by simp [stylusref04_Like.l0] at h, fun _ _ _ _ r h => by simp [stylusref04_Like.j1] at h⟩
 | k + 1 => by
  obtain ⟨ih0, ih1⟩ := stylusref04_Like.mono_l k
  refine ⟨?_, ?_⟩
  ·intro y0 y1 y2
   unfold stylusref04_Like.l0
   repeat' first
   | (with_reducible exact ih0 _ _ _)
   | (with_reducible exact ih1 _ _ _ _)
   | (with_reducible exact stylusref04_Same.mono _ _ _)
   | (with_reducible exact LeO.refl _)
   | (with_reducible exact LeO.none _)
   | (with_reducible refine LeO.ite ?_ ?_)
   | (with_reducible refine LeO.bind ?_ (fun _ => ?_))
   | exact ih0 _ _ _
   | exact ih1 _ _ _ _
   | exact stylusref04_Same.mono _ _ _
   | exact LeO.none _
   | refine LeO.ite ?_ ?_
   | refine LeO.bind ?_ (fun _ => ?_)
  ·intro y0 y1 y2 y3
   unfold stylusref04_Like.j1
   repeat' first
   | (with_reducible exact ih0 _ _ _)
   | (with_reducible exact ih1 _ _ _ _)
   | (with_reducible exact stylusref04_Same.mono _ _ _)
   | (with_reducible exact LeO.refl _)
   | (with_reducible exact LeO.none _)
   | (with_reducible refine LeO.ite ?_ ?_)
   | (with_reducible refine LeO.bind ?_ (fun _ => ?_))
   | exact ih0 _ _ _
   | exact ih1 _ _ _ _
   | exact stylusref04_Same.mono _ _ _
   | exact LeO.none _
   | refine LeO.ite ?_ ?_
   | refine LeO.bind ?_ (fun _ => ?_)
theorem stylusref04_Like.mono : ∀ a0 a1 k, LeO (stylusref04_Like.f k a0 a1) (stylusref04_Like.f (k + 1) a0 a1) := by
 intro a0 a1 k
 obtain ⟨ih0, ih1⟩ := stylusref04_Like.mono_l k
 unfold stylusref04_Like.f
 repeat' first
   | (with_reducible exact ih0 _ _ _)
   | (with_reducible exact ih1 _ _ _ _)
   | (with_reducible exact stylusref04_Same.mono _ _ _)
   | (with_reducible exact LeO.refl _)
   | (with_reducible exact LeO.none _)
   | (with_reducible refine LeO.ite ?_ ?_)
   | (with_reducible refine LeO.bind ?_ (fun _ => ?_))
   | exact ih0 _ _ _
   | exact ih1 _ _ _ _
   | exact stylusref04_Same.mono _ _ _
   | exact LeO.none _
   | refine LeO.ite ?_ ?_
   | refine LeO.bind ?_ (fun _ => ?_)
def styluslaw05_vast.l0 : Nat → List (S56) → Int → Option (Bool)
 | 0, _, _ => none
 | k + 1, x0, x3 => if x3 < (x0.length : Int) then (if 0 ≤ x3 then (if (((rd_T56 x0 x3).f1).size : Int) > 100 then (some true) else (styluslaw05_vast.l0 k x0 (wrap64 (x3 + 1)))) else (none)) else (some false)
def styluslaw05_vast.f (k : Nat) (l0 : List (S56)) : Option (Bool) := if (l0.length : Int) > 150 then (some true) else (styluslaw05_vast.l0 k l0 0)
theorem styluslaw05_vast.mono_l : ∀ k, (∀ y0 y1, LeO (styluslaw05_vast.l0 k y0 y1) (styluslaw05_vast.l0 (k + 1) y0 y1))
 | 0 => fun _ _ r h => by simp [styluslaw05_vast.l0] at h
 | k + 1 => by
  have ih0 := styluslaw05_vast.mono_l k
  ·intro y0 y1
   unfold styluslaw05_vast.l0
   repeat' first
   | (with_reducible exact ih0 _ _)
   | (with_reducible exact LeO.refl _)
   | (with_reducible exact LeO.none _)
   | (with_reducible refine LeO.ite ?_ ?_)
   | (with_reducible refine LeO.bind ?_ (fun _ => ?_))
   | exact ih0 _ _
   | exact LeO.none _
   | refine LeO.ite ?_ ?_
   | refine LeO.bind ?_ (fun _ => ?_)
theorem styluslaw05_vast.mono : ∀ a0 k, LeO (styluslaw05_vast.f k a0) (styluslaw05_vast.f (k + 1) a0) := by
 intro a0 k
 have ih0 := styluslaw05_vast.mono_l k
 unfold styluslaw05_vast.f
 repeat' first
   | (with_reducible exact ih0 _ _)
   | (with_reducible exact LeO.refl _)
   | (with_reducible exact LeO.none _)
   | (with_reducible refine LeO.ite ?_ ?_)
   | (with_reducible refine LeO.bind ?_ (fun _ => ?_))
   | exact ih0 _ _
   | exact LeO.none _
   | refine LeO.ite ?_ ?_
   | refine LeO.bind ?_ (fun _ => ?_)
set_option maxHeartbeats 8000000 in
set_option maxRecDepth 100000 in
theorem styluslaw05_vast.calls (k : Nat) (A0 : Option Addr) (c0 : Nat) (l0 : List (S56)) (r : Bool) (w : World) (hr0 : Kd.C k56 w A0 l0.length l0) (hc0 : l0.length ≤ c0) (h : styluslaw05_vast.f k l0 = some r) :
  Calls Try.prog 62 #[.slice A0 l0.length c0] w fun e w' => e = .returned (.bool r) ∧ Drawn0 w w' := by
 have HR0 := Aside0.mk hr0
 have HC0 := Aside0.mk hc0
 clear hr0 hc0
 have H : (if (l0.length : Int) > 150 then (some true) else (styluslaw05_vast.l0 k l0 0)) = some r := h
 clear h
 by_cases c2 : (l0.length : Int) > 150
 ·rw [if_pos c2] at H
  have c2b0 : decide (150 < (l0.length : Int)) = true := decide_eq_true c2
  have c2b1 : decide (150 < l0.length) = true := decide_eq_true (by omega)
  clear c2
  obtain rfl := Option.some.inj H
  go_enter Try.func62, Try.ntmps62
  go_wp2
  go_ret
  exact ⟨by first | rfl | (simp; done) | (simp [*]; done), by repeat (first | exact Drawn0.refl _ | apply Drawn0.step)⟩
 ·rw [if_neg c2] at H
  have c2b0 : decide (150 < (l0.length : Int)) = false := decide_eq_false c2
  have c2b1 : decide (150 < l0.length) = false := decide_eq_false (by omega)
  clear c2
  have H' := Aside0.mk H
  clear H
  go_enter Try.func62, Try.ntmps62
  go_wp2
  go_loopg [3] k (fun kq v3 w' => ∃ (x3_1 : Int), v3 = .int .i64 x3_1 ∧ Aside0 (styluslaw05_vast.l0 kq l0 x3_1 = some r) ∧ Aside0 (kq ≤ k) ∧ Drawn0 w w')
  case atStart => exact ⟨(0), (by first | rfl | (simp; done) | (simp [*]; done)), H', ⟨Nat.le_refl _⟩, by repeat (first | exact Drawn0.refl _ | apply Drawn0.step)⟩
  case round =>
   clear H'
   try clear c2
   try clear c2b0
   try clear c2b1
   try clear p2
   obtain ⟨x3_1, rfl, HA, HK1, ⟨m1, rfl⟩⟩ := hrel
   cases gk with
   | zero => exact absurd HA.out (by simp [styluslaw05_vast.l0])
   | succ k1 =>
    have H := HA.out
    clear HA
    simp only [styluslaw05_vast.l0] at H
    by_cases c3 : x3_1 < (l0.length : Int)
    ·rw [if_pos c3] at H
     have c3b0 : decide (x3_1 < (l0.length : Int)) = true := decide_eq_true c3
     clear c3
     by_cases c4 : 0 ≤ x3_1
     ·rw [if_pos c4] at H
      have c4b0 : decide (0 ≤ x3_1) = true := decide_eq_true c4
      clear c4
      by_cases c5 : (((rd_T56 l0 x3_1).f1).size : Int) > 100
      ·rw [if_pos c5] at H
       have c5b0 : decide (100 < (((rd_T56 l0 x3_1).f1).size : Int)) = true := decide_eq_true c5
       have c5b1 : decide (100 < ((rd_T56 l0 x3_1).f1).size) = true := decide_eq_true (by omega)
       clear c5
       obtain rfl := Option.some.inj H
       have p110 : 0 ≤ (x3_1 : Int) := of_decide_eq_true (by first | (with_reducible assumption) | assumption)
       have q110 : x3_1 < (l0.length : Int) := of_decide_eq_true (by first | (with_reducible assumption) | assumption)
       obtain ⟨ad110, e110, hx110_0, hx110_1, hx110_2, hx110_3⟩ := at_T56 HR0.out x3_1 p110 q110
       cases e110
       replace p110 := eq_true p110
       replace q110 := eq_true q110
       go_wp2
       go_ret
       exact ⟨by first | rfl | (simp; done) | (simp [*]; done), by repeat (first | exact Drawn0.refl _ | apply Drawn0.step)⟩
      ·rw [if_neg c5] at H
       have c5b0 : decide (100 < (((rd_T56 l0 x3_1).f1).size : Int)) = false := decide_eq_false c5
       have c5b1 : decide (100 < ((rd_T56 l0 x3_1).f1).size) = false := decide_eq_false (by omega)
       clear c5
       have H' := Aside0.mk H
       clear H
       have p110 : 0 ≤ (x3_1 : Int) := of_decide_eq_true (by first | (with_reducible assumption) | assumption)
       have q110 : x3_1 < (l0.length : Int) := of_decide_eq_true (by first | (with_reducible assumption) | assumption)
       obtain ⟨ad110, e110, hx110_0, hx110_1, hx110_2, hx110_3⟩ := at_T56 HR0.out x3_1 p110 q110
       cases e110
       replace p110 := eq_true p110
       replace q110 := eq_true q110
       go_wp2
       go_roundg k1
       case measure => have := HK1.out; omega
       case rel => exact ⟨(wrap64 (x3_1 + 1)), (by first | rfl | (simp; done) | (simp [*]; done)), H', ⟨by have := HK1.out; omega⟩, by repeat (first | exact Drawn0.refl _ | apply Drawn0.step)⟩
     ·rw [if_neg c4] at H
      exact absurd H (by simp)
    ·rw [if_neg c3] at H
     have c3b0 : decide (x3_1 < (l0.length : Int)) = false := decide_eq_false c3
     clear c3
     obtain rfl := Option.some.inj H
     go_wp2
     go_ret
     exact ⟨by first | rfl | (simp; done) | (simp [*]; done), by repeat (first | exact Drawn0.refl _ | apply Drawn0.step)⟩
end Go.Proofs.Ythcmfjpheanphaa.Pr
namespace Go.Proofs.Ythcmfjpheanphaa.Pr
open Go.RowKit Go.Proofs.YthcmfjpheanphaaW.PrintWords
def nodesB (l : List S56) : Bool := decide (l.length ≤ 400000) && l.all fun x => decide (x.f1.size ≤ 1000000) && (decide (0 ≤ x.f0) && decide (x.f0 ≤ 255))
theorem nodesB_iff (l : List S56) : nodesB l = true ↔ l.length ≤ 400000 ∧ NodesOk l := by
 unfold nodesB NodesOk
 simp only [Bool.and_eq_true, decide_eq_true_eq, List.all_eq_true]
def tree_Check.f (l0 : List S56) : Option Int := if nodesB l0 = true then some (checkP l0) else none
theorem tree_Check.calls (A0 : Option Addr) (c0 : Nat) (l0 : List S56) (r : Int) (w : World) (hr0 : Kd.C k56 w A0 l0.length l0) (hc0 : l0.length ≤ c0) (h : tree_Check.f l0 = some r) :
  Calls Try.prog 57 #[.slice A0 l0.length c0] w fun e w' => e = .returned (.int .i64 r) ∧ Below w.heap.size w w' := by
 unfold tree_Check.f at h
 by_cases hs : nodesB l0 = true
 ·rw [if_pos hs] at h
  obtain rfl := Option.some.inj h
  obtain ⟨h1, h2⟩ := (nodesB_iff l0).mp hs
  exact check_calls A0 c0 l0 w h1 h2 hr0 hc0
 ·rw [if_neg hs] at h
  cases h
def tree_Same.f (l0 l1 : List S56) : Option Bool := if l0.length ≤ 140737488351232 ∧ l1.length ≤ 140737488351232 then some (sameL l0 l1) else none
theorem tree_Same.calls (A0 : Option Addr) (c0 : Nat) (l0 : List S56) (A1 : Option Addr) (c1 : Nat) (l1 : List S56) (r : Bool) (w : World) (hr0 : Kd.C k56 w A0 l0.length l0) (hc0 : l0.length ≤ c0)
  (hr1 : Kd.C k56 w A1 l1.length l1) (hc1 : l1.length ≤ c1) (h : tree_Same.f l0 l1 = some r) :
  Calls Try.prog 56 #[.slice A0 l0.length c0, .slice A1 l1.length c1] w fun e w' => e = .returned (.bool r) ∧ Below w.heap.size w w' := by
 unfold tree_Same.f at h
 by_cases hs : l0.length ≤ 140737488351232 ∧ l1.length ≤ 140737488351232
 ·rw [if_pos hs] at h
  obtain rfl := Option.some.inj h
  exact same_calls A0 A1 c0 c1 l0 l1 w hs.1 hs.2 hr0 hr1
 ·rw [if_neg hs] at h
  cases h
end Go.Proofs.Ythcmfjpheanphaa.Pr
namespace Go.Proofs.Ythcmfjpheanphaa.Pr
open Go.RowKit Go.Proofs.YthcmfjpheanphaaW.PrintWords Go.Proofs.YthcmfjpheanphaaW.PrintLast Go.Proofs.YthcmfjpheanphaaW.PrintMore
attribute [local go_sem] max2_int min2_int max_two min_two max_three min_three max_four min_four
def norm_Of.f (k : Nat) (l0 : List (S56)) : Option ((List (S56)) × Int) := (tree_Check.f l0).bind fun t207 => (if t207 = 0 then ((norm_squeezed.f k l0).bind fun t208 => ((norm_packed.f k t208 0 (l0.length : Int)).bind fun t211 => (some (t211, 0)))) else (some (([] : List (S56)), t207)))
theorem norm_Of.mono : ∀ a0 k, LeO (norm_Of.f k a0) (norm_Of.f (k + 1) a0) := by
 intro a0 k
 unfold norm_Of.f
 repeat' first
   | (with_reducible exact norm_packed.mono _ _ _ _)
   | (with_reducible exact norm_squeezed.mono _ _)
   | (with_reducible exact LeO.refl _)
   | (with_reducible exact LeO.none _)
   | (with_reducible refine LeO.ite ?_ ?_)
   | (with_reducible refine LeO.bind ?_ (fun _ => ?_))
   | exact norm_packed.mono _ _ _ _
   | exact norm_squeezed.mono _ _
   | exact LeO.none _
   | refine LeO.ite ?_ ?_
   | refine LeO.bind ?_ (fun _ => ?_)
set_option maxHeartbeats 8000000 in
set_option maxRecDepth 100000 in
theorem norm_Of.calls (k : Nat) (A0 : Option Addr) (c0 : Nat) (l0 : List (S56)) (r1 : List (S56)) (r2 : Int) (w : World) (hr0 : Kd.C k56 w A0 l0.length l0) (hc0 : l0.length ≤ c0) (h : norm_Of.f k l0 = some (r1, r2)) :
  Calls Try.prog 64 #[.slice A0 l0.length c0] w fun e w' => ∃ v0_ : Value, e = .returned (.tuple #[v0_, .int .i64 r2]) ∧ Kd.R k56 56 w' w.heap.size (fun _ => True) v0_ r1 ∧ Below w.heap.size w w' := by
 have HR0 := Aside0.mk hr0
 have HC0 := Aside0.mk hc0
 clear hr0 hc0
 have HB := Aside0.mk (Below.refl w.heap.size w)
 have H : ((tree_Check.f l0).bind fun t207 => (if t207 = 0 then ((norm_squeezed.f k l0).bind fun t208 => ((norm_packed.f k t208 0 (l0.length : Int)).bind fun t211 => (some (t211, 0)))) else (some (([] : List (S56)), t207)))) = some (r1, r2) := h
 clear h
 replace H := Option.bind_eq_some_iff.mp H
 obtain ⟨t207, A20, H⟩ := H
 replace H : (if t207 = 0 then ((norm_squeezed.f k l0).bind fun t208 => ((norm_packed.f k t208 0 (l0.length : Int)).bind fun t211 => (some (t211, 0)))) else (some (([] : List (S56)), t207))) = some (r1, r2) := H
 have A2 := Aside0.mk A20
 clear A20
 by_cases c3 : t207 = 0
 ·rw [if_pos c3] at H
  have c3b0 : (t207 == 0) = true := beq_iff_eq.mpr c3
  have c3b1 : (t207 != 0) = false := bne_eq_false_iff_eq.mpr c3
  clear c3
  replace H := Option.bind_eq_some_iff.mp H
  obtain ⟨t208, A40, H⟩ := H
  replace H : ((norm_packed.f k t208 0 (l0.length : Int)).bind fun t211 => (some (t211, 0))) = some (r1, r2) := H
  have A4 := Aside0.mk A40
  clear A40
  replace H := Option.bind_eq_some_iff.mp H
  obtain ⟨t211, A50, H⟩ := H
  replace H : (some (t211, 0)) = some (r1, r2) := H
  have A5 := Aside0.mk A50
  clear A50
  simp only [Option.some.injEq, Prod.mk.injEq] at H
  obtain ⟨rfl, rfl⟩ := H
  go_enter Try.func64, Try.ntmps64
  go_wp2_with (first | ((with_reducible refine gate_callee (f := 57) rfl ?_); refine goesL_ (some 6) rfl rfl Try.func57 (by kernel_rfl) rfl #[.slice A0 l0.length c0] rfl (by (try simp only [List.map_toArray, List.map_cons, List.map_nil]); first | done | rfl | (simp only [List.length_drop, List.length_take]; rfl)) ?_; (with_reducible refine (tree_Check.calls _ _ l0 t207 _ ?side1 ?side2 A2.out).mono ?_); (case side1 => repeat (first | exact HR0.out | (with_reducible refine Kd.C_alloc ?_ _) | (with_reducible refine Kd.C_drewN ?_ _) | (with_reducible refine Kd.C_drew ?_))); (case side2 => exact HC0.out); rintro e w6 ⟨rfl, hb⟩; refine ⟨_, rfl, ?_⟩; have n0_ := Aside0.mk (below_step (by repeat (first | (with_reducible first | exact HB.out | apply below_alloc | apply pw_below_drewN | apply below_drew1) | exact HB.out)) hb); clear HB; have HB := n0_; clear n0_; (try clear hb); (try clear hb2); (try clear hk); (try clear hi)) | ((with_reducible refine gate_callee (f := 111) rfl ?_); refine goesL_ (some 11) rfl rfl Try.func111 (by kernel_rfl) rfl #[.slice A0 l0.length c0] rfl (by (try simp only [List.map_toArray, List.map_cons, List.map_nil]); first | done | rfl | (simp only [List.length_drop, List.length_take]; rfl)) ?_; (with_reducible refine (norm_squeezed.calls k _ _ l0 t208 _ ?side1 ?side2 A4.out).mono ?_); (case side1 => repeat (first | exact (Kd.C_below HR0.out HB.out) | (with_reducible refine Kd.C_alloc ?_ _) | (with_reducible refine Kd.C_drewN ?_ _) | (with_reducible refine Kd.C_drew ?_))); (case side2 => exact HC0.out); rintro e w7 ⟨v209, rfl, ho0, hb⟩; refine ⟨_, rfl, ?_⟩; have n0_ := Aside0.mk (Kd.R_lower ho0 (below_size (by repeat (first | (with_reducible first | exact HB.out | apply below_alloc | apply pw_below_drewN | apply below_drew1) | exact HB.out)))); have n1_ := Aside0.mk (below_step (by repeat (first | (with_reducible first | exact HB.out | apply below_alloc | apply pw_below_drewN | apply below_drew1) | exact HB.out)) hb); clear HB; have HO210 := n0_; have HB := n1_; clear n0_ n1_; (try clear hb); (try clear hb2); (try clear hk); (try clear hi); (try clear ho0); obtain ⟨Ao8, co8, eo8⟩ := Kd.R_slice HO210.out; subst eo8) | ((with_reducible refine gate_callee (f := 110) rfl ?_); refine goesL_ (some 14) rfl rfl Try.func110 (by kernel_rfl) rfl #[.slice Ao8 t208.length co8, .int .i64 0, .int .i64 (l0.length : Int)] rfl (by (try simp only [List.map_toArray, List.map_cons, List.map_nil]); first | done | rfl | (simp only [List.length_drop, List.length_take]; rfl)) ?_; (with_reducible refine (norm_packed.calls k _ _ t208 0 (l0.length : Int) t211 _ ?side1 ?side2 A5.out).mono ?_); (case side1 => repeat (first | exact (Kd.R_reads' HO210.out).2.2 | (with_reducible refine Kd.C_alloc ?_ _) | (with_reducible refine Kd.C_drewN ?_ _) | (with_reducible refine Kd.C_drew ?_))); (case side2 => exact (Kd.R_reads' HO210.out).2.1); rintro e w9 ⟨v212, rfl, ho0, hb⟩; refine ⟨_, rfl, ?_⟩; have n0_ := Aside0.mk (Kd.R_elder' (by (with_reducible repeat (first | apply Kd.R_alloc | apply Kd.R_drewN | apply Kd.R_drew)); exact HO210.out) (Kd.R_base ho0) hb); have n1_ := Aside0.mk (Kd.R_lower (Kd.R_new' ho0 (Kd.R_lt (by (with_reducible repeat (first | apply Kd.R_alloc | apply Kd.R_drewN | apply Kd.R_drew)); exact HO210.out))) (below_size (by repeat (first | (with_reducible first | exact HB.out | apply below_alloc | apply pw_below_drewN | apply below_drew1) | exact HB.out)))); have n2_ := Aside0.mk (below_step (by repeat (first | (with_reducible first | exact HB.out | apply below_alloc | apply pw_below_drewN | apply below_drew1) | exact HB.out)) hb); clear HO210; clear HB; have HO210 := n0_; have HO213 := n1_; have HB := n2_; clear n0_ n1_ n2_; (try clear hb); (try clear hb2); (try clear hk); (try clear hi); (try clear ho0)))
  go_ret2
  exact ⟨_, by first | rfl | (simp [errW_none, errW_some] <;> rfl) | (simp [*, errW_none, errW_some] <;> rfl), by (with_reducible repeat (first | apply Kd.R_alloc | apply Kd.R_drewN | apply Kd.R_drew)); exact Kd.R_mono HO213.out (fun _ hk => trivial), by repeat (first | (with_reducible first | exact HB.out | apply below_alloc | apply pw_below_drewN | apply below_drew1) | exact HB.out)⟩
 ·rw [if_neg c3] at H
  have c3b0 : (t207 == 0) = false := beq_eq_false_iff_ne.mpr c3
  have c3b1 : (t207 != 0) = true := bne_iff_ne.mpr c3
  simp only [Option.some.injEq, Prod.mk.injEq] at H
  obtain ⟨rfl, rfl⟩ := H
  go_enter Try.func64, Try.ntmps64
  go_wp2_with (first | ((with_reducible refine gate_callee (f := 57) rfl ?_); refine goesL_ (some 6) rfl rfl Try.func57 (by kernel_rfl) rfl #[.slice A0 l0.length c0] rfl (by (try simp only [List.map_toArray, List.map_cons, List.map_nil]); first | done | rfl | (simp only [List.length_drop, List.length_take]; rfl)) ?_; (with_reducible refine (tree_Check.calls _ _ l0 t207 _ ?side1 ?side2 A2.out).mono ?_); (case side1 => repeat (first | exact HR0.out | (with_reducible refine Kd.C_alloc ?_ _) | (with_reducible refine Kd.C_drewN ?_ _) | (with_reducible refine Kd.C_drew ?_))); (case side2 => exact HC0.out); rintro e w10 ⟨rfl, hb⟩; refine ⟨_, rfl, ?_⟩; have n0_ := Aside0.mk (below_step (by repeat (first | (with_reducible first | exact HB.out | apply below_alloc | apply pw_below_drewN | apply below_drew1) | exact HB.out)) hb); clear HB; have HB := n0_; clear n0_; (try clear hb); (try clear hb2); (try clear hk); (try clear hi)))
  go_ret2
  exact ⟨_, by first | rfl | (simp [errW_none, errW_some] <;> rfl) | (simp [*, errW_none, errW_some] <;> rfl), by first | exact Kd.R_nil _ _ _ _ _ | exact Kd.N_nil _ _ _ _ _ | exact Kd.V_nil _ _ _ _ _ | exact Kd.Q_nil _ _ _ _ _ | exact Kd.S_nil _ _ _ _ _, by repeat (first | (with_reducible first | exact HB.out | apply below_alloc | apply pw_below_drewN | apply below_drew1) | exact HB.out)⟩
end Go.Proofs.Ythcmfjpheanphaa.Pr
