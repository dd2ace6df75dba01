/- Texts of this seat, one behind the other. -/
import Derived.Test.YtbddfnmhhmkfkaaXLinesSet1
import Derived.Test.YtbddfnmhhmkfkaaXLinesSet2
import Derived.Test.YtbddfnmhhmkfkaaXLinesSet3
import Derived.Test.YtbddfnmhhmkfkaaXLinesSet4
import Derived.Test.YtbddfnmhhmkfkaaXLinesSet5
import Derived.Test.YtbddfnmhhmkfkaaXLinesSet6
set_option linter.unusedVariables false
set_option linter.unusedSimpArgs false
namespace Go.Proofs.Ytbddfnmhhmkfkaa.Pr
open Go.RowKit Go.Proofs.YtbddfnmhhmkfkaaW.PrintWords Go.Proofs.YtbddfnmhhmkfkaaW.PrintLast Go.Proofs.YtbddfnmhhmkfkaaW.PrintMore
attribute [local go_sem] Oper.semAt_some run_store_func
def dashOf (l : List S43) (b : Int) : List S43 := if b < (l.length : Int) ∧ (rd_T43 l b).f0 = 3 then [rd_T43 l b] else []
def lineOf (toks : List S101) (l : List S43) (wd a b : Int) : S55 := setP toks ((l.take b.toNat).drop a.toNat) wd (b == (l.length : Int)) (dashOf l b)
def linesFrom (toks : List S101) (l : List S43) (wd : Int) : Int → List Int → List S55
 | _, [] => []
 | a, b :: bs => lineOf toks l wd a b :: linesFrom toks l wd (b + 1) bs
def brOk (n : Int) : Int → List Int → Bool
 | _, [] => true
 | a, b :: bs => decide (0 ≤ a ∧ a ≤ b ∧ b ≤ n) && brOk n (b + 1) bs
def kindOk (x : S43) : Bool := x.f0 == 1 || x.f0 == 2 || x.f0 == 3 || x.f0 == 4
def lines_Of.f (l0 : List S101) (l1 : List S43) (a2 : Int) (l3 : List Int) : Option (List S55 × Int) :=
 if l1.length ≤ 1000 ∧ l3.length ≤ 1000 then
  (if (demeritsP l1 a2 l3).2 = 0 then (if l1.any (oddT l0) = true then some ([], 1) else (if brOk l1.length 0 l3 = true ∧ l1.all kindOk = true then some (linesFrom l0 l1 a2 0 l3, 0) else none))
   else some ([], (demeritsP l1 a2 l3).2)) else none
theorem cut_one (l : List S43) (j : Nat) (h : j < l.length) : (l.take (j + 1)).drop j = [rd_T43 l j] := by
 rw [List.take_add_one, rd43_get l j h, List.drop_append_of_le_length (by rw [List.length_take]; omega), List.drop_eq_nil_of_le (by rw [List.length_take]; omega)]
 rfl
theorem own_R57 {w : World} {base : Nat} {v : Value} {xs : List S57} (h : w.ownsRow base 57 4 v xs.length (flat57 xs)) (ok : Nat → Prop) (hok : ∀ k, v.ownBlock = some k → ok k) : Kd.R k57 57 w base ok v xs := by
 refine ⟨hok, flat57 xs, h, by rw [flat57_length]; rfl, fun j p hp => ?_⟩
 have key : ∀ (xs : List S57) (j : Nat) (p : S57), xs[j]? = some p → ((flat57 xs).drop (j * 4)).take 4 = [.int .i64 p.f0, .int .u8 p.f1, .int .i64 p.f2, .int .i64 p.f3] := by
  intro xs
  induction xs with
  | nil => intro j p h; simp at h
  | cons x xs ih =>
   intro j p h
   cases j with
   | zero =>
    simp only [List.getElem?_cons_zero, Option.some.injEq] at h
    subst h
    simp [flat57]
   | succ j =>
    have := ih j p (by simpa using h)
    have e : flat57 (x :: xs) = [.int .i64 x.f0, .int .u8 x.f1, .int .i64 x.f2, .int .i64 x.f3] ++ flat57 xs := rfl
    rw [e, show (j + 1) * 4 = 4 + j * 4 by omega, ← List.drop_drop]
    exact this
 show k57.M w base ok p (((flat57 xs).drop (j * 4)).take 4)
 rw [key xs j p hp]
 exact k57_mkM w base ok p
set_option maxRecDepth 100000 in
set_option maxHeartbeats 4000000 in
theorem lines_Of.calls (A0 : Option Addr) (c0 : Nat) (l0 : List S101) (A1 : Option Addr) (c1 : Nat) (l1 : List S43) (a2 : Int) (A3 : Option Addr) (c3 : Nat) (l3 : List Int) (r1 : List S55) (r2 : Int) (w : World)
  (hr0 : Kd.C k101 w A0 l0.length l0) (hc0 : l0.length ≤ c0) (hr1 : Kd.C k43 w A1 l1.length l1) (hc1 : l1.length ≤ c1) (hr3 : Kd.C (Kd.int .i64) w A3 l3.length l3) (hc3 : l3.length ≤ c3) (h : lines_Of.f l0 l1 a2 l3 = some (r1, r2)) :
  Calls Try.prog 26 #[.slice A0 l0.length c0, .slice A1 l1.length c1, .int .i64 a2, .slice A3 l3.length c3] w fun e w' => ∃ v, e = .returned (.tuple #[v, .int .i64 r2]) ∧ Kd.S k55 55 w' w.heap.size (fun _ => True) v r1 ∧ Below w.heap.size w w' := by
 unfold lines_Of.f at h
 by_cases hsz : l1.length ≤ 1000 ∧ l3.length ≤ 1000
 case neg => rw [if_neg hsz] at h; cases h
 rw [if_pos hsz] at h
 obtain ⟨⟨d1, d2⟩, hd⟩ : ∃ p, demeritsP l1 a2 l3 = p := ⟨_, rfl⟩
 rw [hd] at h
 have hdem := fun W hW => best_Demerits.calls A1 c1 l1 a2 A3 c3 l3 d1 d2 W (Kd.C_below hr1 hW) hc1 (Kd.C_below hr3 hW) hc3 (by unfold best_Demerits.f; rw [if_pos ⟨by omega, by omega⟩, hd])
 have HDM := Lib.hid hdem
 have HT0 := Lib.hid hr0
 have HA1 := Lib.hid hr1
 have HA3 := Lib.hid hr3
 have hbx := blk_new w (.cells #[.slice A0 l0.length c0] 44)
 have hb0 := (Below.refl w.heap.size w).alloc (Nat.le_refl _) (.cells #[.slice A0 l0.length c0] 44)
 obtain ⟨w1, hw1⟩ : ∃ w1, w.alloc (.cells #[.slice A0 l0.length c0] 44) = w1 := ⟨_, rfl⟩
 rw [hw1] at hbx hb0
 have HBX := Lib.hid hbx
 have HB0 := Lib.hid hb0
 clear hbx hb0 hdem hr0 hr1 hr3 hd
 have H := Lib.hid h
 clear h
 go_enter Try.func26, Try.ntmps26
 go_wp2_with fail
 refine (HDM.out _ HB0.out).mono ?_
 rintro _ w2 ⟨rfl, hb2⟩
 have hbx2 := blk_below HBX.out hb2
 replace hb2 := HB0.out.trans (hb2.mono HB0.out.size)
 have HB2 := Lib.hid hb2
 have HX2 := Lib.hid hbx2
 clear hb2 hbx2 hw1
 by_cases hd2 : d2 = 0
 ·subst hd2
  have hH := H.out
  rw [if_pos rfl] at hH
  clear H
  cases hany : l1.any (oddT l0) with
  | true =>
   rw [hany, if_pos rfl] at hH
   cases hH
   have HANY : Hid (l1.any (oddT l0) = true) := hany
   clear hany
   go_wp2_with fail
   refine (hasTok_calls w.heap.size A1 c1 l1 w2 (by omega) (Kd.C_below HA1.out HB2.out) A0 c0 l0 hc0 (Kd.C_below HT0.out HB2.out) HX2.out).mono ?_
   rintro _ w3 ⟨rfl, hb3⟩
   rw [HANY.out]
   have hbx3 := blk_below HX2.out hb3
   replace hb3 := HB2.out.trans (hb3.mono HB2.out.size)
   have HB3 := Lib.hid hb3
   have HX3 := Lib.hid hbx3
   clear hb3 hbx3
   go_wp2
   go_ret2
   exact ⟨_, rfl, Kd.S_nil _ _ _ _ _, HB3.out⟩
  | false =>
   rw [hany, if_neg (by simp)] at hH
   by_cases hbk : brOk l1.length 0 l3 = true ∧ l1.all kindOk = true
   case neg => rw [if_neg hbk] at hH; cases hH
   rw [if_pos hbk] at hH
   cases hH
   obtain ⟨hbr, hko⟩ := hbk
   have HBR := Lib.hid hbr
   have hkinds : ∀ x ∈ l1, x.f0 = 1 ∨ x.f0 = 2 ∨ x.f0 = 3 ∨ x.f0 = 4 := fun x hx => by
    have := List.all_eq_true.1 hko x hx
    simpa [kindOk, or_assoc] using this
   have HKS := Lib.hid hkinds
   have HANY : Hid (l1.any (oddT l0) = false) := hany
   clear hbr hko hkinds hany
   go_wp2_with fail
   refine (hasTok_calls w.heap.size A1 c1 l1 w2 (by omega) (Kd.C_below HA1.out HB2.out) A0 c0 l0 hc0 (Kd.C_below HT0.out HB2.out) HX2.out).mono ?_
   rintro _ w3 ⟨rfl, hb3⟩
   rw [HANY.out]
   have hbx3 := blk_below HX2.out hb3
   replace hb3 := HB2.out.trans (hb3.mono HB2.out.size)
   have HB3 := Lib.hid hb3
   have HX3 := Lib.hid hbx3
   clear hb3 hbx3
   obtain ⟨n, hn⟩ : ∃ n, l1.length = n := ⟨_, rfl⟩
   obtain ⟨m, hm⟩ : ∃ m, l3.length = m := ⟨_, rfl⟩
   have HN := Lib.hid hn
   have HM := Lib.hid hm
   rw [hn, hm] at hsz
   obtain ⟨hn1, hm1⟩ := hsz
   have hbr0 := HBR.out
   rw [hn] at hbr0
   have HBR0 := Lib.hid hbr0
   clear hbr0 HBR HANY HDM
   go_wp2_with fail
   go_loopw [13, 14, 34] (fun v13 v14 v34 wr => ∃ (k : Nat) (fr : Int) (done : List S55), v34 = .int .i64 k ∧ k ≤ m ∧ v14 = .int .i64 fr ∧ 0 ≤ fr ∧ Kd.S k55 55 wr (w.heap.size + 1) (fun _ => True) v13 done ∧ Hid (done.length = k) ∧
    Hid (done ++ linesFrom l0 l1 a2 fr (l3.drop k) = linesFrom l0 l1 a2 0 l3) ∧ Hid (brOk n fr (l3.drop k) = true) ∧ Below w.heap.size w wr ∧ wr.heap[w.heap.size]? = some (.cells #[.slice A0 l0.length c0] 44 (0, 0))) (fun _ _ v _ => m - (intOf v).toNat)
   case atStart => exact ⟨0, 0, [], rfl, Nat.zero_le _, rfl, Int.le_refl _, Kd.S_nil _ _ _ _ _, rfl, rfl, HBR0.out, HB3.out, HX3.out⟩
   case round =>
    obtain ⟨k, fr, done, rfl, hk, rfl, hfr, hS, HL, HE, HB, hB, hX⟩ := hrel
    by_cases hlt : k < m
    ·have hlt1 : (k : Int) < (m : Int) := by omega
     obtain ⟨b, rest, hdr⟩ : ∃ b rest, l3.drop k = b :: rest := by
      have : k < l3.length := by have := HM.out; omega
      exact ⟨_, _, List.drop_eq_getElem_cons this⟩
     have hget : l3[k]? = some b := by
      have := congrArg (fun x => x[0]?) hdr
      simpa using this
     have hdr1 : l3.drop (k + 1) = rest := by
      have := congrArg List.tail hdr
      simpa using this
     obtain ⟨ad, e1, q0⟩ := Kd.at_int (Kd.C_below HA3.out hB) k (by omega) (by have := HM.out; omega)
     cases e1
     have hrd : rd l3 k = b := by
      unfold rd
      rw [Int.toNat_natCast, List.getD_eq_getElem?_getD, hget]
      rfl
     rw [hrd] at q0
     simp only [Int.toNat_natCast] at q0
     have hbr := HB.out
     rw [hdr] at hbr
     simp only [brOk, Bool.and_eq_true, decide_eq_true_eq] at hbr
     obtain ⟨⟨_, hfb, hbn⟩, hbr⟩ := hbr
     have hE := HE.out
     rw [hdr, linesFrom] at hE
     have HE1 : Hid ((done ++ [lineOf l0 l1 a2 fr b]) ++ linesFrom l0 l1 a2 (b + 1) rest = linesFrom l0 l1 a2 0 l3) := by
      rw [List.append_assoc]; exact hE
     have HB1 : Hid (brOk n (b + 1) rest = true) := hbr
     have HD1 : Hid (l3.drop (k + 1) = rest) := hdr1
     have HS9 := Lib.hid hS
     have HX9 := Lib.hid hX
     clear hdr hget hdr1 hrd hbr hE HE HB hS hX
     have hb0 : 0 ≤ b := by omega
     have hcase : (b < n ∧ (rd_T43 l1 b).f0 = 3) ∨ (b < n ∧ (rd_T43 l1 b).f0 ≠ 3) ∨ b = n := by
      by_cases h1 : b < n
      ·by_cases h2 : (rd_T43 l1 b).f0 = 3
       ·exact .inl ⟨h1, h2⟩
       ·exact .inr (.inl ⟨h1, h2⟩)
      ·exact .inr (.inr (by omega))
     rcases hcase with ⟨h1, h2⟩ | ⟨h1, h2⟩ | h1
     ·obtain ⟨ad1, e1, p0, _⟩ := at_T43 (Kd.C_below HA1.out hB) b hb0 (by have := HN.out; omega)
      cases e1
      obtain ⟨i43, hi43, _, hz43, _⟩ := info_parts info43
      have hcD := cut_mid (P := Try.prog) 22 43 .i64 .i64 Try.underlying22 hi43 5 hz43 (some ad1) n c1 b (b + 1) hb0 (by omega) (by omega) (by omega)
      have hcL := cut_mid (P := Try.prog) 22 43 .i64 .i64 Try.underlying22 hi43 5 hz43 (some ad1) n c1 fr b hfr hfb hbn (by omega)
      rw [h2] at p0
      have HH2 := Lib.hid h2
      clear h2
      go_wp2_with fail
      have hs0 := HS9.out
      obtain ⟨w4, hw4⟩ : ∃ w4, wr.drew = w4 := ⟨_, rfl⟩
      have hB4 : Below wr.heap.size wr w4 := by rw [← hw4]; exact below_drew1 (Below.refl _ _)
      have HB4 := Lib.hid hB4
      clear hs0 hB4
      refine Go.Mix.region_mix' (fun b W => Below wr.heap.size wr W) 99 12 [0] (by kernel_rfl) (by kernel_rfl) (fun _ _ _ _ _ h => h) (by rw [hw4]; exact HB4.out) ?_
      clear hw4
      refine Go.Mix.seqE_cons (t' := #[_, _, _, _, _, _, _, _, _, _, _, _, _, _, _, _, _, _, _, _, _, _, _, _, _, _, _, _, _, _, _, _, _, _, _, _, _, _, _, _, _, _, _, _, _, _, _, _, _, _, _, _, _, _, _, _, _, _, _, _, _, _, _, _, _, _, _, _, _, _, _, _, _, _]) _ _ rfl rfl (fun w' => rfl) rfl ?_
      refine Go.Mix.seqE_nil ?_
      apply Go.Mix.seqM_skip (by rfl)
      repeat
       apply Go.Mix.seqM_cons (by rfl) (by rfl)
       focus
        intro bb W hS
        have x0 := blk_cell (blk_below HX9.out hS) 0
        simp only [List.getElem?_toArray, List.getElem?_cons_zero] at x0
        have HSS := Lib.hid hS
        clear hS
        go_wp2
        exact Go.Det.AtEnd.mk HSS.out
      refine Go.Mix.seqM_nil ?_
      intro W hS
      have HSS := Lib.hid hS
      clear hS
      simp only [List.drop_succ_cons, List.drop_zero]
      go_wp2_with fail
      have hWB : Below w.heap.size w W := hB.trans (HSS.out.mono hB.size)
      have hNN := HN.out
      have hsub := Kd.C_mid (lo := fr.toNat) (hi := b.toNat) (c := c1) (Kd.C_below HA1.out hWB) (by omega) (by omega) hc1
      rw [if_neg (by omega)] at hsub
      have hdash := Kd.C_mid (lo := b.toNat) (hi := (b + 1).toNat) (c := c1) (Kd.C_below HA1.out hWB) (by omega) (by omega) hc1
      rw [if_neg (by omega)] at hdash
      have hsc := set_calls A0 c0 l0 (some (ad1.add (fr.toNat * 5))) (c1 - fr.toNat) ((l1.take b.toNat).drop fr.toNat) a2 (b == (n : Int)) (some (ad1.add (b.toNat * 5))) (c1 - b.toNat) ((l1.take (b + 1).toNat).drop b.toNat) W hc0 (Kd.C_below HT0.out hWB) hsub hdash
       (by rw [List.length_drop, List.length_take]; omega) (by rw [List.length_drop, List.length_take]; omega) (fun x hx => HKS.out x (List.mem_of_mem_take (List.mem_of_mem_drop hx))) (fun x hx => HKS.out x (List.mem_of_mem_take (List.mem_of_mem_drop hx)))
      have len1 : ((l1.take b.toNat).drop fr.toNat).length = b.toNat - fr.toNat := by rw [List.length_drop, List.length_take]; omega
      have len2 : ((l1.take (b + 1).toNat).drop b.toNat).length = (b + 1).toNat - b.toNat := by rw [List.length_drop, List.length_take]; omega
      rw [len1, len2] at hsc
      refine hsc.mono ?_
      rintro _ W2 ⟨v2, rfl, ho2, hb2⟩
      have HO2 := Lib.hid ho2
      have HW2 := Lib.hid hb2
      have HWB := Lib.hid hWB
      clear hsub hdash hsc len1 len2 ho2 hb2 hWB hNN
      obtain ⟨L, hL⟩ : ∃ L, setP l0 ((l1.take b.toNat).drop fr.toNat) a2 (b == (n : Int)) ((l1.take (b + 1).toNat).drop b.toNat) = L := ⟨_, rfl⟩
      have ho2' := HO2.out
      rw [hL] at ho2'
      have HO3 := Lib.hid ho2'
      clear ho2' HO2
      rw [hL]
      have HLL := Lib.hid hL
      clear hL
      go_wp2_with (at_builtin; refine Kd.S_append k55 (w0 := wr) (w.heap.size + 1) rfl _ _ 45 55 (.agg #[(.slice none 0 0), (.int .i64 0), (.int .i64 0)]) 40 rfl Try.underlying45 info55 rfl (by decide) (by decide) _ done L [v2, .int .i64 L.f1, .int .i64 L.f2] (fun _ => True) (fun k => v2.ownBlock = some k) rfl rfl ?g1 ?g2 ?g3 ?g4 ?g5 ?g6 ?g7 ?g8)
      case g1 => exact k55_mkM _ _ _ L (own_R57 (own_weaken HO3.out (by have := blk_lt HX9.out; have := HSS.out.size; omega)) _ (fun k hk => hk))
      case g2 =>
       intro j hj
       refine ⟨trivial, fun e => ?_⟩
       have q1 := own_base HO3.out j hj
       have q2 := HSS.out.size
       obtain ⟨inner, ho⟩ := Kd.S_own HS9.out
       rcases ho.2 with ⟨rfl, _⟩ | ⟨g, cap, cur, rfl, _, hg, _⟩
       ·cases e
       ·have := blk_lt hg
        have e' : some j = (Value.slice (some ⟨g, 0, none⟩) done.length cap).ownBlock := e
        obtain rfl : j = g := by simpa [Value.ownBlock] using e'
        omega
      case g3 => exact fun _ _ => trivial
      case g4 => exact Kd.S_mono (Kd.S_below (Kd.S_below (Kd.S_bound HS9.out) HSS.out) HW2.out) (fun j hj => ⟨trivial, fun e => by have q1 := own_base HO3.out j e; have q2 := HSS.out.size; have q3 := hj.2.2.1; omega⟩)
      case g5 => exact (HSS.out.mono (by have := blk_lt HX9.out; omega)).trans (HW2.out.mono (by have := blk_lt HX9.out; have := HSS.out.size; omega))
      case g6 => have := blk_lt HX9.out; have := HSS.out.size; have := HW2.out.size; omega
      case g7 => have := HL.out; omega
      case g8 =>
       intro v1 w5 hS1 hB1 hg1 hat1
       have HSN := Lib.hid hS1
       have HBN := Lib.hid (hB.trans (hB1.mono (by omega)))
       have HXN := Lib.hid ((hB1.block w.heap.size (by omega)).trans HX9.out)
       clear hS1 hB1 hg1 hat1
       go_wp2
       refine ⟨⟨k + 1, b + 1, done ++ [L], ?_, by omega, ?_, by omega, HSN.out, ?_, ?_, ?_, HBN.out, HXN.out⟩, ?_⟩
       ·simp
       ·rfl
       ·show (done ++ [L]).length = k + 1
        have := HL.out
        simp; omega
       ·have hL2 : L = lineOf l0 l1 a2 fr b := by
         have hN := HN.out
         rw [← HLL.out]
         unfold lineOf dashOf
         rw [if_pos ⟨by omega, HH2.out⟩, show (b + 1).toNat = b.toNat + 1 by omega, cut_one l1 b.toNat (by omega), Int.toNat_of_nonneg hb0, hN]
        show (done ++ [L]) ++ linesFrom l0 l1 a2 (b + 1) (l3.drop (k + 1)) = _
        rw [hL2, HD1.out]
        exact HE1.out
       ·show brOk n (b + 1) (l3.drop (k + 1)) = true
        rw [HD1.out]
        exact HB1.out
       ·simp [intOf]; omega
     ·obtain ⟨ad1, e1, p0, _⟩ := at_T43 (Kd.C_below HA1.out hB) b hb0 (by have := HN.out; omega)
      cases e1
      obtain ⟨i43, hi43, _, hz43, _⟩ := info_parts info43
      have hcL := cut_mid (P := Try.prog) 22 43 .i64 .i64 Try.underlying22 hi43 5 hz43 (some ad1) n c1 fr b hfr hfb hbn (by omega)
      have h2b := beq_eq_false_iff_ne.2 h2
      have HH2 : Hid (¬ (rd_T43 l1 b).f0 = 3) := h2
      clear h2
      go_wp2_with fail
      have hs0 := HS9.out
      obtain ⟨w4, hw4⟩ : ∃ w4, wr.drew = w4 := ⟨_, rfl⟩
      have hB4 : Below wr.heap.size wr w4 := by rw [← hw4]; exact below_drew1 (Below.refl _ _)
      have HB4 := Lib.hid hB4
      clear hs0 hB4
      refine Go.Mix.region_mix' (fun b W => Below wr.heap.size wr W) 99 12 [0] (by kernel_rfl) (by kernel_rfl) (fun _ _ _ _ _ h => h) (by rw [hw4]; exact HB4.out) ?_
      clear hw4
      refine Go.Mix.seqE_cons (t' := #[_, _, _, _, _, _, _, _, _, _, _, _, _, _, _, _, _, _, _, _, _, _, _, _, _, _, _, _, _, _, _, _, _, _, _, _, _, _, _, _, _, _, _, _, _, _, _, _, _, _, _, _, _, _, _, _, _, _, _, _, _, _, _, _, _, _, _, _, _, _, _, _, _, _]) _ _ rfl rfl (fun w' => rfl) rfl ?_
      refine Go.Mix.seqE_nil ?_
      apply Go.Mix.seqM_skip (by rfl)
      repeat
       apply Go.Mix.seqM_cons (by rfl) (by rfl)
       focus
        intro bb W hS
        have x0 := blk_cell (blk_below HX9.out hS) 0
        simp only [List.getElem?_toArray, List.getElem?_cons_zero] at x0
        have HSS := Lib.hid hS
        clear hS
        go_wp2
        exact Go.Det.AtEnd.mk HSS.out
      refine Go.Mix.seqM_nil ?_
      intro W hS
      have HSS := Lib.hid hS
      clear hS
      simp only [List.drop_succ_cons, List.drop_zero]
      go_wp2_with fail
      have hWB : Below w.heap.size w W := hB.trans (HSS.out.mono hB.size)
      have hNN := HN.out
      have hsub := Kd.C_mid (lo := fr.toNat) (hi := b.toNat) (c := c1) (Kd.C_below HA1.out hWB) (by omega) (by omega) hc1
      rw [if_neg (by omega)] at hsub
      have hdash : Kd.C k43 W none ([] : List S43).length [] := ⟨rfl, by simp, fun hp => absurd hp (by simp)⟩
      have hsc := set_calls A0 c0 l0 (some (ad1.add (fr.toNat * 5))) (c1 - fr.toNat) ((l1.take b.toNat).drop fr.toNat) a2 (b == (n : Int)) none 0 [] W hc0 (Kd.C_below HT0.out hWB) hsub hdash
       (by rw [List.length_drop, List.length_take]; omega) (by simp) (fun x hx => HKS.out x (List.mem_of_mem_take (List.mem_of_mem_drop hx))) (fun x hx => by cases hx)
      have len1 : ((l1.take b.toNat).drop fr.toNat).length = b.toNat - fr.toNat := by rw [List.length_drop, List.length_take]; omega
      rw [len1] at hsc
      refine hsc.mono ?_
      rintro _ W2 ⟨v2, rfl, ho2, hb2⟩
      have HO2 := Lib.hid ho2
      have HW2 := Lib.hid hb2
      have HWB := Lib.hid hWB
      clear hsub hdash hsc len1 ho2 hb2 hWB hNN
      obtain ⟨L, hL⟩ : ∃ L, setP l0 ((l1.take b.toNat).drop fr.toNat) a2 (b == (n : Int)) [] = L := ⟨_, rfl⟩
      have ho2' := HO2.out
      rw [hL] at ho2'
      have HO3 := Lib.hid ho2'
      clear ho2' HO2
      rw [hL]
      have HLL := Lib.hid hL
      clear hL
      go_wp2_with (at_builtin; refine Kd.S_append k55 (w0 := wr) (w.heap.size + 1) rfl _ _ 45 55 (.agg #[(.slice none 0 0), (.int .i64 0), (.int .i64 0)]) 40 rfl Try.underlying45 info55 rfl (by decide) (by decide) _ done L [v2, .int .i64 L.f1, .int .i64 L.f2] (fun _ => True) (fun k => v2.ownBlock = some k) rfl rfl ?g1 ?g2 ?g3 ?g4 ?g5 ?g6 ?g7 ?g8)
      case g1 => exact k55_mkM _ _ _ L (own_R57 (own_weaken HO3.out (by have := blk_lt HX9.out; have := HSS.out.size; omega)) _ (fun k hk => hk))
      case g2 =>
       intro j hj
       refine ⟨trivial, fun e => ?_⟩
       have q1 := own_base HO3.out j hj
       have q2 := HSS.out.size
       obtain ⟨inner, ho⟩ := Kd.S_own HS9.out
       rcases ho.2 with ⟨rfl, _⟩ | ⟨g, cap, cur, rfl, _, hg, _⟩
       ·cases e
       ·have := blk_lt hg
        have e' : some j = (Value.slice (some ⟨g, 0, none⟩) done.length cap).ownBlock := e
        obtain rfl : j = g := by simpa [Value.ownBlock] using e'
        omega
      case g3 => exact fun _ _ => trivial
      case g4 => exact Kd.S_mono (Kd.S_below (Kd.S_below (Kd.S_bound HS9.out) HSS.out) HW2.out) (fun j hj => ⟨trivial, fun e => by have q1 := own_base HO3.out j e; have q2 := HSS.out.size; have q3 := hj.2.2.1; omega⟩)
      case g5 => exact (HSS.out.mono (by have := blk_lt HX9.out; omega)).trans (HW2.out.mono (by have := blk_lt HX9.out; have := HSS.out.size; omega))
      case g6 => have := blk_lt HX9.out; have := HSS.out.size; have := HW2.out.size; omega
      case g7 => have := HL.out; omega
      case g8 =>
       intro v1 w5 hS1 hB1 hg1 hat1
       have HSN := Lib.hid hS1
       have HBN := Lib.hid (hB.trans (hB1.mono (by omega)))
       have HXN := Lib.hid ((hB1.block w.heap.size (by omega)).trans HX9.out)
       clear hS1 hB1 hg1 hat1
       go_wp2
       refine ⟨⟨k + 1, b + 1, done ++ [L], ?_, by omega, ?_, by omega, HSN.out, ?_, ?_, ?_, HBN.out, HXN.out⟩, ?_⟩
       ·simp
       ·rfl
       ·show (done ++ [L]).length = k + 1
        have := HL.out
        simp; omega
       ·have hL2 : L = lineOf l0 l1 a2 fr b := by
         have hN := HN.out
         rw [← HLL.out]
         unfold lineOf dashOf
         rw [if_neg (fun h => HH2.out h.2), hN]
        show (done ++ [L]) ++ linesFrom l0 l1 a2 (b + 1) (l3.drop (k + 1)) = _
        rw [hL2, HD1.out]
        exact HE1.out
       ·show brOk n (b + 1) (l3.drop (k + 1)) = true
        rw [HD1.out]
        exact HB1.out
       ·simp [intOf]; omega
     ·subst h1
      have h2 : ¬ (n : Int) < (n : Int) := by omega
      obtain ⟨i43, hi43, _, hz43, _⟩ := info_parts info43
      have hNN := HN.out
      obtain ⟨AL, hcL, hcut⟩ : ∃ AL, (∀ W : World, (Instr.slice 22 (.slice A1 n c1) (some (.int .i64 fr)) (some (.int .i64 (n : Int))) none).run Try.prog W = .ok (.slice AL (n - fr.toNat) (c1 - fr.toNat)) W) ∧ (∀ W, Kd.C k43 W A1 l1.length l1 → Kd.C k43 W AL ((l1.take n).drop fr.toNat).length ((l1.take n).drop fr.toNat)) :=
       ⟨_, cut_mid (P := Try.prog) 22 43 .i64 .i64 Try.underlying22 hi43 5 hz43 A1 n c1 fr (n : Int) hfr hfb hbn (by omega), fun W hC => Kd.C_mid (lo := fr.toNat) (hi := n) (c := c1) hC (by omega) (by omega) hc1⟩
      have HCUT := Lib.hid hcut
      clear hcut hNN
      go_wp2_with fail
      have hs0 := HS9.out
      obtain ⟨w4, hw4⟩ : ∃ w4, wr.drew = w4 := ⟨_, rfl⟩
      have hB4 : Below wr.heap.size wr w4 := by rw [← hw4]; exact below_drew1 (Below.refl _ _)
      have HB4 := Lib.hid hB4
      clear hs0 hB4
      refine Go.Mix.region_mix' (fun b W => Below wr.heap.size wr W) 99 12 [0] (by kernel_rfl) (by kernel_rfl) (fun _ _ _ _ _ h => h) (by rw [hw4]; exact HB4.out) ?_
      clear hw4
      refine Go.Mix.seqE_cons (t' := #[_, _, _, _, _, _, _, _, _, _, _, _, _, _, _, _, _, _, _, _, _, _, _, _, _, _, _, _, _, _, _, _, _, _, _, _, _, _, _, _, _, _, _, _, _, _, _, _, _, _, _, _, _, _, _, _, _, _, _, _, _, _, _, _, _, _, _, _, _, _, _, _, _, _]) _ _ rfl rfl (fun w' => rfl) rfl ?_
      refine Go.Mix.seqE_nil ?_
      apply Go.Mix.seqM_skip (by rfl)
      repeat
       apply Go.Mix.seqM_cons (by rfl) (by rfl)
       focus
        intro bb W hS
        have x0 := blk_cell (blk_below HX9.out hS) 0
        simp only [List.getElem?_toArray, List.getElem?_cons_zero] at x0
        have HSS := Lib.hid hS
        clear hS
        go_wp2
        exact Go.Det.AtEnd.mk HSS.out
      refine Go.Mix.seqM_nil ?_
      intro W hS
      have HSS := Lib.hid hS
      clear hS
      simp only [List.drop_succ_cons, List.drop_zero]
      go_wp2_with fail
      have hWB : Below w.heap.size w W := hB.trans (HSS.out.mono hB.size)
      have hNN := HN.out
      have hsub := HCUT.out W (Kd.C_below HA1.out hWB)
      have hdash : Kd.C k43 W none ([] : List S43).length [] := ⟨rfl, by simp, fun hp => absurd hp (by simp)⟩
      have hsc := set_calls A0 c0 l0 AL (c1 - fr.toNat) ((l1.take n).drop fr.toNat) a2 true none 0 [] W hc0 (Kd.C_below HT0.out hWB) hsub hdash
       (by rw [List.length_drop, List.length_take]; omega) (by simp) (fun x hx => HKS.out x (List.mem_of_mem_take (List.mem_of_mem_drop hx))) (fun x hx => by cases hx)
      have len1 : ((l1.take n).drop fr.toNat).length = n - fr.toNat := by rw [List.length_drop, List.length_take]; omega
      rw [len1] at hsc
      refine hsc.mono ?_
      rintro _ W2 ⟨v2, rfl, ho2, hb2⟩
      have HO2 := Lib.hid ho2
      have HW2 := Lib.hid hb2
      have HWB := Lib.hid hWB
      clear hsub hdash hsc len1 ho2 hb2 hWB hNN
      obtain ⟨L, hL⟩ : ∃ L, setP l0 ((l1.take n).drop fr.toNat) a2 true [] = L := ⟨_, rfl⟩
      have ho2' := HO2.out
      rw [hL] at ho2'
      have HO3 := Lib.hid ho2'
      clear ho2' HO2
      rw [hL]
      have HLL := Lib.hid hL
      clear hL
      go_wp2_with (at_builtin; refine Kd.S_append k55 (w0 := wr) (w.heap.size + 1) rfl _ _ 45 55 (.agg #[(.slice none 0 0), (.int .i64 0), (.int .i64 0)]) 40 rfl Try.underlying45 info55 rfl (by decide) (by decide) _ done L [v2, .int .i64 L.f1, .int .i64 L.f2] (fun _ => True) (fun k => v2.ownBlock = some k) rfl rfl ?g1 ?g2 ?g3 ?g4 ?g5 ?g6 ?g7 ?g8)
      case g1 => exact k55_mkM _ _ _ L (own_R57 (own_weaken HO3.out (by have := blk_lt HX9.out; have := HSS.out.size; omega)) _ (fun k hk => hk))
      case g2 =>
       intro j hj
       refine ⟨trivial, fun e => ?_⟩
       have q1 := own_base HO3.out j hj
       have q2 := HSS.out.size
       obtain ⟨inner, ho⟩ := Kd.S_own HS9.out
       rcases ho.2 with ⟨rfl, _⟩ | ⟨g, cap, cur, rfl, _, hg, _⟩
       ·cases e
       ·have := blk_lt hg
        have e' : some j = (Value.slice (some ⟨g, 0, none⟩) done.length cap).ownBlock := e
        obtain rfl : j = g := by simpa [Value.ownBlock] using e'
        omega
      case g3 => exact fun _ _ => trivial
      case g4 => exact Kd.S_mono (Kd.S_below (Kd.S_below (Kd.S_bound HS9.out) HSS.out) HW2.out) (fun j hj => ⟨trivial, fun e => by have q1 := own_base HO3.out j e; have q2 := HSS.out.size; have q3 := hj.2.2.1; omega⟩)
      case g5 => exact (HSS.out.mono (by have := blk_lt HX9.out; omega)).trans (HW2.out.mono (by have := blk_lt HX9.out; have := HSS.out.size; omega))
      case g6 => have := blk_lt HX9.out; have := HSS.out.size; have := HW2.out.size; omega
      case g7 => have := HL.out; omega
      case g8 =>
       intro v1 w5 hS1 hB1 hg1 hat1
       have HSN := Lib.hid hS1
       have HBN := Lib.hid (hB.trans (hB1.mono (by omega)))
       have HXN := Lib.hid ((hB1.block w.heap.size (by omega)).trans HX9.out)
       clear hS1 hB1 hg1 hat1
       go_wp2
       refine ⟨⟨k + 1, (n : Int) + 1, done ++ [L], ?_, by omega, ?_, by omega, HSN.out, ?_, ?_, ?_, HBN.out, HXN.out⟩, ?_⟩
       ·simp
       ·rfl
       ·show (done ++ [L]).length = k + 1
        have := HL.out
        simp; omega
       ·have hL2 : L = lineOf l0 l1 a2 fr (n : Int) := by
         have hN := HN.out
         rw [← HLL.out]
         unfold lineOf dashOf
         rw [if_neg (fun h => by have := h.1; omega), hN, beq_self_eq_true, Int.toNat_natCast]
        show (done ++ [L]) ++ linesFrom l0 l1 a2 ((n : Int) + 1) (l3.drop (k + 1)) = _
        rw [hL2, HD1.out]
        exact HE1.out
       ·show brOk n ((n : Int) + 1) (l3.drop (k + 1)) = true
        rw [HD1.out]
        exact HB1.out
       ·simp [intOf]; omega
    ·obtain rfl : k = m := by omega
     have hlt1 : ¬ (k : Int) < (k : Int) := by omega
     have hE := HE.out
     rw [List.drop_of_length_le (by have := HM.out; omega)] at hE
     simp only [linesFrom, List.append_nil] at hE
     have HS9 := Lib.hid hS
     have HX9 := Lib.hid hX
     have HE9 := Lib.hid hE
     clear hS hX hE
     go_wp2
     go_ret2
     exact ⟨_, rfl, by rw [← HE9.out]; exact Kd.S_lower HS9.out (by omega), hB⟩
 ·have hd2b : (d2 == 0) = false := beq_eq_false_iff_ne.2 hd2
  have hH := H.out
  rw [if_neg hd2] at hH
  cases hH
  clear H
  go_wp2
  go_ret2
  exact ⟨_, rfl, Kd.S_nil _ _ _ _ _, HB2.out⟩
end Go.Proofs.Ytbddfnmhhmkfkaa.Pr
namespace Go.Proofs.Ytbddfnmhhmkfkaa.Pr
open Go.RowKit Go.Proofs.YtbddfnmhhmkfkaaW.PrintWords Go.Proofs.YtbddfnmhhmkfkaaW.PrintLast Go.Proofs.YtbddfnmhhmkfkaaW.PrintMore
def slackO (w n y z : Int) (last : Bool) : Int := if last = true ∧ n ≤ w then 0 else if w - n > y then y else if w - n < -z then -z else w - n
def roomO (d y z : Int) : Int := if d < 0 then z else y
def partO (d all s : Int) : Int := if all = 0 then 0 else (d * s).tdiv all
def slackL (l : List S43) (w f t : Int) : Int := slackO w (lineN l f t) (lineY l f t) (lineZ l f t) (t == (l.length : Int))
def gT (d : Int) : S43 → Int := if d < 0 then gZ else gY
def roomL (l : List S43) (w f t : Int) : Int := roomO (slackL l w f t) (lineY l f t) (lineZ l f t)
def xL (l : List S43) (w f t : Int) (i : Nat) : Int :=
 nS gN l i - nS gN l (f + 1).toNat + partO (slackL l w f t) (roomL l w f t) (nS (gT (slackL l w f t)) l i - nS (gT (slackL l w f t)) l (f + 1).toNat)
def spotsL (toks : List S101) (l : List S43) (w f t : Int) (a : Nat) : Nat → List S57
 | 0 => []
 | k + 1 => spotsL toks l w f t a k ++ if (rd_T43 l ((a + k : Nat) : Int)).f0 = 3 then [] else [spotP toks (rd_T43 l ((a + k : Nat) : Int)) (xL l w f t (a + k))]
def bitsO (over loose dash : Bool) : Int := (if over then 1 else 0) + (if loose then 2 else 0) + (if dash then 4 else 0)
def lineC (toks : List S101) (l : List S43) (w f t : Int) : S55 :=
 ⟨spotsL toks l w f t (f + 1).toNat (t.toNat - (f + 1).toNat) ++ (if hyphP l t = true then [spotP toks (rd_T43 l t) (xL l w f t t.toNat)] else []),
  lineN l f t + slackL l w f t,
  bitsO (decide (w < lineN l f t - lineZ l f t)) (!(t == (l.length : Int)) && decide (lineN l f t + lineY l f t < w)) (hyphP l t)⟩
theorem tdiv_mul_bd {m all s : Int} (hm : 0 ≤ m) (hma : m ≤ all) (hs : 0 ≤ s) (hsa : s ≤ all) : 0 ≤ (m * s).tdiv all ∧ (m * s).tdiv all ≤ s ∧ (m * s).tdiv all ≤ m := by
 have h1 : 0 ≤ m * s := Int.mul_nonneg hm hs
 rw [Int.tdiv_eq_ediv_of_nonneg h1]
 by_cases h0 : all = 0
 ·subst h0
  simp
  omega
 ·have hp : 0 < all := by omega
  refine ⟨Int.ediv_nonneg h1 (by omega), ?_, ?_⟩
  ·refine Int.le_of_lt_add_one ((Int.ediv_lt_iff_lt_mul hp).2 ?_)
   have := Int.mul_le_mul_of_nonneg_right hma hs
   rw [Int.add_mul, Int.one_mul, Int.mul_comm s all]
   omega
  ·refine Int.le_of_lt_add_one ((Int.ediv_lt_iff_lt_mul hp).2 ?_)
   have := Int.mul_le_mul_of_nonneg_left hsa hm
   rw [Int.add_mul, Int.one_mul]
   omega
theorem tdiv_neg_mul {m all s : Int} : ((-m) * s).tdiv all = -((m * s).tdiv all) := by
 rw [Int.neg_mul, Int.neg_tdiv]
theorem partO_bd {d all s : Int} (hd : -all ≤ d) (hd' : d ≤ all) (hs : 0 ≤ s) (hsa : s ≤ all) : -s ≤ partO d all s ∧ partO d all s ≤ s ∧ (0 ≤ d → 0 ≤ partO d all s ∧ partO d all s ≤ d) ∧ (d ≤ 0 → d ≤ partO d all s ∧ partO d all s ≤ 0) := by
 unfold partO
 by_cases h0 : all = 0
 ·rw [if_pos h0]
  omega
 ·rw [if_neg h0]
  rcases Int.le_total 0 d with h | h
  ·have := tdiv_mul_bd (m := d) (all := all) h hd' hs hsa
   refine ⟨by omega, by omega, fun _ => by omega, fun h2 => ?_⟩
   obtain rfl : d = 0 := by omega
   simp
  ·obtain ⟨m, rfl⟩ : ∃ m, d = -m := ⟨-d, by omega⟩
   rw [tdiv_neg_mul]
   have := tdiv_mul_bd (m := m) (all := all) (by omega) (by omega) hs hsa
   refine ⟨by omega, by omega, fun h2 => ?_, fun _ => by omega⟩
   obtain rfl : m = 0 := by omega
   simp
theorem partO_all {d all : Int} (h0 : all = 0 → d = 0) : partO d all all = d := by
 unfold partO
 by_cases h : all = 0
 ·rw [if_pos h, h0 h]
 ·rw [if_neg h, Int.mul_tdiv_cancel _ h]
theorem slackO_bd {w n y z : Int} (hy : 0 ≤ y) (hz : 0 ≤ z) (last : Bool) : -z ≤ slackO w n y z last ∧ slackO w n y z last ≤ y := by
 unfold slackO
 split
 ·omega
 ·split
  ·omega
  ·split <;> omega
theorem quoP_partO {s a all : Int} (hd : -all ≤ s) (hd' : s ≤ all) (h0 : 0 ≤ a) (ha : a ≤ all) (hb : all ≤ 32770000) (hne : all ≠ 0) : quoP s a all = partO s all a := by
 have h := partO_bd hd hd' h0 ha
 unfold quoP
 have m1 : -1073872900000000 ≤ s * a ∧ s * a ≤ 1073872900000000 := by
  have e1 : s * a ≤ 32770000 * 32770000 := by
   rcases Int.le_total 0 s with hs | hs
   ·exact Int.mul_le_mul (by omega) (by omega) h0 (by omega)
   ·have := Int.mul_nonneg (show 0 ≤ -s by omega) h0
    rw [Int.neg_mul] at this
    omega
  have e2 : -s * a ≤ 32770000 * 32770000 := by
   rcases Int.le_total 0 s with hs | hs
   ·have := Int.mul_nonneg hs h0
    rw [Int.neg_mul]
    omega
   ·exact Int.mul_le_mul (by omega) (by omega) h0 (by omega)
  rw [Int.neg_mul] at e2
  omega
 rw [w64 (n := s * a) (by omega) (by omega)]
 unfold partO at h ⊢
 rw [if_neg hne] at h ⊢
 exact w64 (by omega) (by omega)
theorem seg_rd {l : List S43} {a b j : Nat} (hb : b ≤ l.length) (hj : a + j < b) : rd_T43 ((l.take b).drop a) (j : Int) = rd_T43 l ((a + j : Nat) : Int) := by
 unfold rd_T43
 rw [Int.toNat_natCast, Int.toNat_natCast, List.getD_eq_getElem?_getD, List.getD_eq_getElem?_getD, List.getElem?_drop, List.getElem?_take, if_pos hj]
theorem seg_len {l : List S43} {a b : Nat} (hb : b ≤ l.length) : ((l.take b).drop a).length = b - a := by
 rw [List.length_drop, List.length_take]
 omega
theorem seg_bd {l : List S43} {w : Int} (ok : OkL l w) {g : S43 → Int} (hg : ∀ x, OkItem x → 0 ≤ g x ∧ g x ≤ 2000) {a i : Nat} (h : a ≤ i) (hi : i ≤ l.length) : 0 ≤ nS g l i - nS g l a ∧ nS g l i - nS g l a ≤ 32768000 := by
 have hl := ok.len
 have h1 := nS_bd ok g hg i hi
 have h2 := nS_bd ok g hg a (by omega)
 have h3 := nS_mono ok g hg a (i - a) (by omega)
 rw [show a + (i - a) = i by omega] at h3
 omega
theorem sum_seg {l : List S43} {w : Int} (ok : OkL l w) {g : S43 → Int} (hg : ∀ x, OkItem x → 0 ≤ g x ∧ g x ≤ 2000) {a b : Nat} (hab : a ≤ b) (hb : b ≤ l.length) : ∀ j, a + j ≤ b → sumT g ((l.take b).drop a) j = nS g l (a + j) - nS g l a
 | 0, h => by simp [sumT]
 | j + 1, h => by
  have ih := sum_seg ok hg hab hb j (by omega)
  have hn := nS_next (l := l) g (show a + j < l.length by omega)
  have h1 := seg_bd ok hg (show a ≤ a + (j + 1) by omega) (show a + (j + 1) ≤ l.length by omega)
  rw [show a + (j + 1) = a + j + 1 by omega] at h1 ⊢
  rw [sumT_succ _ _ _ (by rw [seg_len hb]; omega), ih, seg_rd hb (by omega), w64 (by omega) (by omega)]
  omega
theorem gT_bd (d : Int) (x : S43) (h : OkItem x) : 0 ≤ gT d x ∧ gT d x ≤ 2000 := by
 unfold gT
 split
 ·exact (g_bd h).2.2
 ·exact (g_bd h).2.1
structure LineK (l : List S43) (w : Int) (a b : Nat) (sl al : Int) : Prop where
 ok : OkL l w
 ab : a ≤ b
 bl : b ≤ l.length
 all : al = nS (gT sl) l b - nS (gT sl) l a
 lo : -al ≤ sl
 hi : sl ≤ al
def xS (l : List S43) (sl al : Int) (a i : Nat) : Int := nS gN l i - nS gN l a + partO sl al (nS (gT sl) l i - nS (gT sl) l a)
def spS (toks : List S101) (l : List S43) (sl al : Int) (a : Nat) : Nat → List S57
 | 0 => []
 | k + 1 => spS toks l sl al a k ++ if (rd_T43 l ((a + k : Nat) : Int)).f0 = 3 then [] else [spotP toks (rd_T43 l ((a + k : Nat) : Int)) (xS l sl al a (a + k))]
theorem LineK.part {l : List S43} {w : Int} {a b : Nat} {sl al : Int} (h : LineK l w a b sl al) {i : Nat} (h1 : a ≤ i) (h2 : i ≤ b) : 0 ≤ nS (gT sl) l i - nS (gT sl) l a ∧ nS (gT sl) l i - nS (gT sl) l a ≤ al ∧ al ≤ 32768000 := by
 have b1 := seg_bd h.ok (gT_bd sl) h1 (Nat.le_trans h2 h.bl)
 have b2 := seg_bd h.ok (gT_bd sl) h2 h.bl
 have b3 := seg_bd h.ok (gT_bd sl) h.ab h.bl
 have := h.all
 omega
theorem gN_hyph {x : S43} (h : x.f0 = 3) : gN x = 0 := if_pos h
theorem gT_hyph {x : S43} (d : Int) (h : x.f0 = 3) : gT d x = 0 := by
 unfold gT
 split
 ·exact if_neg (by omega)
 ·exact if_neg (by omega)
theorem LineK.step {l : List S43} {w : Int} {a b : Nat} {sl al : Int} (h : LineK l w a b sl al) (toks : List S101) : ∀ j, a + j ≤ b →
  lineL toks (gT sl) sl al ((l.take b).drop a) j = (if al = 0 then 0 else nS (gT sl) l (a + j) - nS (gT sl) l a, xS l sl al a (a + j), spS toks l sl al a j)
 | 0, hj => by
  have : xS l sl al a (a + 0) = 0 := by
   unfold xS partO
   simp
  rw [this]
  simp [lineL, spS]
 | j + 1, hj => by
  have ih := LineK.step h toks j (by omega)
  have hbl := h.bl
  have hsl := seg_len (l := l) (a := a) h.bl
  unfold lineL at ih ⊢
  rw [take_next _ _ _ _ _ (rd43_get _ j (by omega)), ih, seg_rd h.bl (by omega)]
  have hn := nS_next (l := l) gN (show a + j < l.length by omega)
  have ht := nS_next (l := l) (gT sl) (show a + j < l.length by omega)
  have ho := rd_ok h.ok (show a + j < l.length by omega)
  obtain ⟨o1, o2, o3, o4, o5, o6, o7, o8⟩ := id ho
  have b1 := seg_bd h.ok (g := gN) (fun x hx => (g_bd hx).1) (show a ≤ a + j by omega) (show a + j ≤ l.length by omega)
  have b2 := h.part (i := a + j) (by omega) (by omega)
  have b3 := h.part (i := a + j + 1) (by omega) (by omega)
  have p1 := partO_bd h.lo h.hi b2.1 b2.2.1
  have p2 := partO_bd h.lo h.hi b3.1 b3.2.1
  rw [show a + (j + 1) = a + j + 1 by omega]
  unfold stepL
  rw [spS.eq_2]
  by_cases h3 : (rd_T43 l ((a + j : Nat) : Int)).f0 = 3
  ·rw [if_pos h3, if_pos h3, List.append_nil]
   rw [gN_hyph h3] at hn
   rw [gT_hyph sl h3] at ht
   unfold xS
   rw [hn, ht, Int.add_zero, Int.add_zero]
  ·rw [if_neg h3, if_neg h3]
   have hgn : gN (rd_T43 l ((a + j : Nat) : Int)) = (rd_T43 l ((a + j : Nat) : Int)).f1 := if_neg h3
   have hlo := h.lo
   have hhi := h.hi
   have e1 : wrap64 ((rd_T43 l ((a + j : Nat) : Int)).f1 + partP sl al (if al = 0 then 0 else nS (gT sl) l (a + j) - nS (gT sl) l a) (gT sl (rd_T43 l ((a + j : Nat) : Int)))) =
     (rd_T43 l ((a + j : Nat) : Int)).f1 + (partO sl al (nS (gT sl) l (a + j + 1) - nS (gT sl) l a) - partO sl al (nS (gT sl) l (a + j) - nS (gT sl) l a)) := by
    unfold partP
    by_cases h0 : al = 0
    ·rw [if_pos h0]
     unfold partO
     rw [if_pos h0, if_pos h0, w64 (by omega) (by omega)]
     omega
    ·rw [if_neg h0, if_neg h0]
     unfold shareP
     rw [w64 (n := nS (gT sl) l (a + j) - nS (gT sl) l a + gT sl (rd_T43 l ((a + j : Nat) : Int))) (by omega) (by omega),
      show nS (gT sl) l (a + j) - nS (gT sl) l a + gT sl (rd_T43 l ((a + j : Nat) : Int)) = nS (gT sl) l (a + j + 1) - nS (gT sl) l a by omega,
      quoP_partO h.lo h.hi b3.1 b3.2.1 (by omega) h0, quoP_partO h.lo h.hi b2.1 b2.2.1 (by omega) h0, w64 (n := partO sl al _ - partO sl al _) (by omega) (by omega), w64 (by omega) (by omega)]
   rw [e1]
   have e2 : aheadP al (if al = 0 then 0 else nS (gT sl) l (a + j) - nS (gT sl) l a) (gT sl (rd_T43 l ((a + j : Nat) : Int))) = if al = 0 then 0 else nS (gT sl) l (a + j + 1) - nS (gT sl) l a := by
    unfold aheadP
    by_cases h0 : al = 0
    ·rw [if_pos h0, if_pos h0, if_pos h0]
    ·rw [if_neg h0, if_neg h0, if_neg h0, w64 (by omega) (by omega)]
     omega
   rw [e2]
   refine Prod.ext rfl (Prod.ext ?_ rfl)
   show wrap64 (xS l sl al a (a + j) + _) = xS l sl al a (a + j + 1)
   unfold xS
   rw [hn, hgn, w64 (by omega) (by omega)]
   omega
theorem spS_spotsL (toks : List S101) (l : List S43) (w f t : Int) (a : Nat) (ha : (f + 1).toNat = a) : ∀ k, spS toks l (slackL l w f t) (roomL l w f t) a k = spotsL toks l w f t a k
 | 0 => rfl
 | k + 1 => by
  rw [spS, spotsL, spS_spotsL toks l w f t a ha k]
  unfold xL xS
  rw [ha]
theorem bits_ev (p q r : Bool) : bits .or .i64 (bits .or .i64 (bitP p 0) (bitP q 1)) (bitP r 2) = bitsO p q r := by
 cases p <;> cases q <;> cases r <;> decide +kernel
theorem line_known {l : List S43} {w : Int} (ok : OkL l w) {a b : Nat} (hab : a ≤ b) (hb : b ≤ l.length) : LineK l w a b (slackL l w ((a : Int) - 1) b) (roomL l w ((a : Int) - 1) b) := by
 have hy := seg_bd ok (g := gY) (fun x hx => (g_bd hx).2.1) hab hb
 have hz := seg_bd ok (g := gZ) (fun x hx => (g_bd hx).2.2) hab hb
 have ey : lineY l ((a : Int) - 1) b = nS gY l b - nS gY l a := by
  unfold lineY
  rw [Int.toNat_natCast, show ((a : Int) - 1 + 1).toNat = a by omega]
 have ez : lineZ l ((a : Int) - 1) b = nS gZ l b - nS gZ l a := by
  unfold lineZ
  rw [Int.toNat_natCast, show ((a : Int) - 1 + 1).toNat = a by omega]
 have bd := slackO_bd (w := w) (n := lineN l ((a : Int) - 1) b) (y := lineY l ((a : Int) - 1) b) (z := lineZ l ((a : Int) - 1) b) (by omega) (by omega) ((b : Int) == (l.length : Int))
 unfold roomL
 have e : slackL l w ((a : Int) - 1) b = slackO w (lineN l ((a : Int) - 1) b) (lineY l ((a : Int) - 1) b) (lineZ l ((a : Int) - 1) b) ((b : Int) == (l.length : Int)) := rfl
 rw [← e] at bd
 generalize slackL l w ((a : Int) - 1) b = d at *
 refine ⟨ok, hab, hb, ?_, ?_, ?_⟩
 ·unfold roomO gT
  by_cases h : d < 0
  ·rw [if_pos h, if_pos h, ez]
  ·rw [if_neg h, if_neg h, ey]
 ·unfold roomO
  split <;> omega
 ·unfold roomO
  split <;> omega
theorem slack_same {w n y z : Int} (hy : 0 ≤ y) (hz : 0 ≤ z) (ends : Bool) : slackP ends n w (mn (mx (w - n) (-z)) y) = slackO w n y z ends ∧ (mn (mx (w - n) (-z)) y < 0 ↔ slackO w n y z ends < 0) := by
 unfold slackP slackO mn mx
 cases ends
 ·simp only [Bool.false_eq_true, false_and, if_false]
  refine ⟨?_, ?_⟩ <;> (repeat' split) <;> omega
 ·simp only [true_and]
  refine ⟨?_, ?_⟩ <;> (repeat' split) <;> omega
theorem lineOf_eq (toks : List S101) {l : List S43} {w : Int} (ok : OkL l w) {a b : Nat} (hab : a ≤ b) (hb : b ≤ l.length) : lineOf toks l w a b = lineC toks l w ((a : Int) - 1) b := by
 have hK := line_known ok hab hb
 have hl := ok.len
 have hw0 := ok.w0
 have hw1 := ok.w1
 have hseg := seg_len (l := l) (a := a) hb
 have hy := seg_bd ok (g := gY) (fun x hx => (g_bd hx).2.1) hab hb
 have hz := seg_bd ok (g := gZ) (fun x hx => (g_bd hx).2.2) hab hb
 have hn := seg_bd ok (g := gN) (fun x hx => (g_bd hx).1) hab hb
 have ey : lineY l ((a : Int) - 1) b = nS gY l b - nS gY l a := by
  unfold lineY
  rw [Int.toNat_natCast, show ((a : Int) - 1 + 1).toNat = a by omega]
 have ez : lineZ l ((a : Int) - 1) b = nS gZ l b - nS gZ l a := by
  unfold lineZ
  rw [Int.toNat_natCast, show ((a : Int) - 1 + 1).toNat = a by omega]
 have en : lineN l ((a : Int) - 1) b = nS gN l b - nS gN l a + if hyphP l b = true then (rd_T43 l b).f1 else 0 := by
  unfold lineN
  rw [Int.toNat_natCast, show ((a : Int) - 1 + 1).toNat = a by omega]
 have sy : sumT growT ((l.take b).drop a) (b - a) = nS gY l b - nS gY l a := by
  rw [show growT = gY from rfl, sum_seg ok (fun x hx => (g_bd hx).2.1) hab hb _ (by omega), show a + (b - a) = b by omega]
 have sz : sumT shrinkT ((l.take b).drop a) (b - a) = nS gZ l b - nS gZ l a := by
  rw [show shrinkT = gZ from rfl, sum_seg ok (fun x hx => (g_bd hx).2.2) hab hb _ (by omega), show a + (b - a) = b by omega]
 have sn : sumT wideT ((l.take b).drop a) (b - a) = nS gN l b - nS gN l a := by
  rw [show wideT = gN from rfl, sum_seg ok (fun x hx => (g_bd hx).1) hab hb _ (by omega), show a + (b - a) = b by omega]
 have hd : dashOf l b = if hyphP l b = true then [rd_T43 l b] else [] := by
  unfold dashOf hyphP
  simp
 have dn : dashN (nS gN l b - nS gN l a) (dashOf l b) (dashOf l b).length = lineN l ((a : Int) - 1) b := by
  rw [hd, en]
  by_cases hh : hyphP l b = true
  ·have hbl : b < l.length := by
    simp only [hyphP, Bool.and_eq_true, decide_eq_true_eq] at hh
    omega
   obtain ⟨o1, o2, o3, o4, o5, o6, o7, o8⟩ := rd_ok ok hbl
   rw [if_pos hh, if_pos hh]
   simp only [dashN, List.length_singleton, List.take_succ_cons, List.take_zero, List.foldl_cons, List.foldl_nil]
   exact w64 (by omega) (by omega)
  ·rw [if_neg hh, if_neg hh]
   simp [dashN]
 have hnb : 0 ≤ lineN l ((a : Int) - 1) b ∧ lineN l ((a : Int) - 1) b ≤ 32770000 := by
  rw [en]
  split
  ·rename_i hh
   have hbl : b < l.length := by
    simp only [hyphP, Bool.and_eq_true, decide_eq_true_eq] at hh
    omega
   obtain ⟨o1, o2, o3, o4, o5, o6, o7, o8⟩ := rd_ok ok hbl
   omega
  ·omega
 unfold lineOf setP
 rw [Int.toNat_natCast, Int.toNat_natCast, hseg, sy, sz, sn, dn, ← ey, ← ez, w64 (n := w - _) (by omega) (by omega), w64 (n := -_) (by omega) (by omega)]
 have hs := slack_same (w := w) (n := lineN l ((a : Int) - 1) b) (y := lineY l ((a : Int) - 1) b) (z := lineZ l ((a : Int) - 1) b) (by omega) (by omega) ((b : Int) == (l.length : Int))
 have hsl : slackO w (lineN l ((a : Int) - 1) b) (lineY l ((a : Int) - 1) b) (lineZ l ((a : Int) - 1) b) ((b : Int) == (l.length : Int)) = slackL l w ((a : Int) - 1) b := rfl
 rw [hsl] at hs
 unfold setQ
 rw [hs.1]
 generalize hs0 : mn (mx (w - lineN l ((a : Int) - 1) b) (-lineZ l ((a : Int) - 1) b)) (lineY l ((a : Int) - 1) b) = s0 at *
 have ht : tellP s0 = gT (slackL l w ((a : Int) - 1) b) := by
  unfold tellP gT
  by_cases h : s0 < 0
  ·rw [if_pos h, if_pos (hs.2.1 h)]
   rfl
  ·rw [if_neg h, if_neg (fun h' => h (hs.2.2 h'))]
   rfl
 have ha : allP s0 (lineY l ((a : Int) - 1) b) (lineZ l ((a : Int) - 1) b) = roomL l w ((a : Int) - 1) b := by
  unfold allP roomL roomO
  by_cases h : s0 < 0
  ·rw [if_pos h, if_pos (hs.2.1 h)]
  ·rw [if_neg h, if_neg (fun h' => h (hs.2.2 h'))]
 rw [ht, ha, hK.step toks (b - a) (by omega), show a + (b - a) = b by omega]
 have hpart := hK.part (i := b) hab (Nat.le_refl _)
 have hall := hK.all
 have hlo := hK.lo
 have hhi := hK.hi
 have xe : xS l (slackL l w ((a : Int) - 1) b) (roomL l w ((a : Int) - 1) b) a b = nS gN l b - nS gN l a + slackL l w ((a : Int) - 1) b := by
  unfold xS
  rw [← hK.all, partO_all (fun h => by omega)]
 have xl : xS l (slackL l w ((a : Int) - 1) b) (roomL l w ((a : Int) - 1) b) a b = xL l w ((a : Int) - 1) b b := by
  unfold xL xS
  rw [show ((a : Int) - 1 + 1).toNat = a by omega]
 unfold lineC
 rw [Int.toNat_natCast, show ((a : Int) - 1 + 1).toNat = a by omega, spS_spotsL toks l w _ _ a (by omega), bits_ev, hd]
 have yb : lineY l ((a : Int) - 1) b = nS gY l b - nS gY l a := ey
 have b1 : wrap64 (lineN l ((a : Int) - 1) b - lineZ l ((a : Int) - 1) b) = lineN l ((a : Int) - 1) b - lineZ l ((a : Int) - 1) b := w64 (by omega) (by omega)
 have b2 : wrap64 (lineN l ((a : Int) - 1) b + lineY l ((a : Int) - 1) b) = lineN l ((a : Int) - 1) b + lineY l ((a : Int) - 1) b := w64 (by omega) (by omega)
 rw [b1, b2]
 by_cases hh : hyphP l b = true
 ·have hbl : b < l.length := by
   simp only [hyphP, Bool.and_eq_true, decide_eq_true_eq] at hh
   omega
  obtain ⟨o1, o2, o3, o4, o5, o6, o7, o8⟩ := rd_ok ok hbl
  rw [if_pos hh, if_pos hh, hh]
  rw [if_pos hh] at en
  have e3 : xS l (slackL l w ((a : Int) - 1) b) (roomL l w ((a : Int) - 1) b) a b + (rd_T43 l b).f1 = lineN l ((a : Int) - 1) b + slackL l w ((a : Int) - 1) b := by rw [xe, en]; omega
  simp only [lineD, List.length_singleton, List.take_succ_cons, List.take_zero, List.foldl_cons, List.foldl_nil, stepD]
  rw [e3, xl, w64 (by omega) (by omega)]
  rfl
 ·rw [if_neg hh, if_neg hh]
  rw [if_neg hh] at en
  have hf : hyphP l b = false := by simpa using hh
  rw [hf]
  simp only [lineD, List.length_nil, List.take_zero, List.foldl_nil, List.append_nil]
  rw [xe, en, Int.add_zero]
  rfl
def linesC (toks : List S101) (l : List S43) (w : Int) : Int → List Int → List S55
 | _, [] => []
 | f, b :: bs => lineC toks l w f b :: linesC toks l w b bs
theorem lines_eq (toks : List S101) {l : List S43} {w : Int} (ok : OkL l w) : ∀ (bs : List Int) (f : Int), -1 ≤ f → Br l f bs → linesFrom toks l w (f + 1) bs = linesC toks l w f bs ∧ brOk l.length (f + 1) bs = true
 | [], f, hf, h => ⟨rfl, rfl⟩
 | b :: bs, f, hf, h => by
  obtain ⟨h1, h2, h3, h4⟩ := h
  obtain ⟨p1, p2⟩ := place_le h2
  obtain ⟨i1, i2⟩ := lines_eq toks ok bs b (by omega) h4
  obtain ⟨a, ha⟩ : ∃ a : Nat, f + 1 = a := ⟨(f + 1).toNat, by omega⟩
  obtain ⟨c, rfl⟩ : ∃ c : Nat, b = c := ⟨b.toNat, by omega⟩
  rw [linesFrom, linesC, i1, ha, lineOf_eq toks ok (by omega) (by omega), show (a : Int) - 1 = f by omega]
  refine ⟨rfl, ?_⟩
  rw [brOk, i2, Bool.and_true, decide_eq_true_eq]
  omega
theorem lines_Of_f (toks : List S101) (l : List S43) (w : Int) (bs : List Int) (hl : l.length ≤ 1000) (hb : bs.length ≤ 1000) :
  lines_Of.f toks l w bs = some (if checkP l w = 0 ∧ legalL l bs = true then (if l.any (oddT toks) = true then ([], 1) else (linesC toks l w (-1) bs, 0)) else ([], 1)) := by
 unfold lines_Of.f demeritsP
 rw [if_pos ⟨hl, hb⟩]
 by_cases h : checkP l w = 0 ∧ legalL l bs = true
 ·rw [if_pos h, if_pos h, if_pos rfl]
  split
  ·rfl
  ·obtain ⟨h1, h2⟩ := h
   have ok := check_ok h1
   unfold legalL at h2
   rw [Bool.and_eq_true] at h2
   have hbr := ((legalB_iff l bs (-1)).1 h2.2).1
   have he := lines_eq toks ok bs (-1) (by omega) hbr
   have hko : l.all kindOk = true := by
    rw [List.all_eq_true]
    intro x hx
    have := ok.item x hx
    unfold kindOk
    obtain ⟨o1, o2, o3, o4, o5, o6, o7, o8⟩ := this
    simp only [Bool.or_eq_true, beq_iff_eq]
    omega
   rw [show (-1 : Int) + 1 = 0 from rfl] at he
   rw [if_pos ⟨he.2, hko⟩, he.1]
 ·rw [if_neg h, if_neg h]
  rfl
theorem spotsL_len (toks : List S101) (l : List S43) (w f t : Int) (a : Nat) : ∀ k, (spotsL toks l w f t a k).length ≤ k
 | 0 => by simp [spotsL]
 | k + 1 => by
  have ih := spotsL_len toks l w f t a k
  rw [spotsL, List.length_append]
  split
  ·simp; omega
  ·simp; omega
theorem lineC_len (toks : List S101) {l : List S43} {w f t : Int} (ht : t ≤ l.length) : (lineC toks l w f t).f0.length ≤ l.length + 1 := by
 unfold lineC
 rw [List.length_append]
 have := spotsL_len toks l w f t (f + 1).toNat (t.toNat - (f + 1).toNat)
 split
 ·simp; omega
 ·simp; omega
theorem linesC_mem (toks : List S101) {l : List S43} (w : Int) : ∀ (bs : List Int) (f : Int), Br l f bs → (linesC toks l w f bs).length = bs.length ∧ ∀ x ∈ linesC toks l w f bs, x.f0.length ≤ l.length + 1
 | [], f, h => ⟨rfl, fun x hx => by cases hx⟩
 | b :: bs, f, h => by
  obtain ⟨h1, h2, h3, h4⟩ := h
  obtain ⟨i1, i2⟩ := linesC_mem toks w bs b h4
  refine ⟨by rw [linesC, List.length_cons, List.length_cons, i1], fun x hx => ?_⟩
  rw [linesC] at hx
  rcases List.mem_cons.1 hx with rfl | hx
  ·exact lineC_len toks (place_le h2).2
  ·exact i2 x hx
end Go.Proofs.Ytbddfnmhhmkfkaa.Pr
namespace Go.Proofs.Ytbddfnmhhmkfkaa.Pr
open Go.RowKit Go.Proofs.YtbddfnmhhmkfkaaW.PrintWords Go.Proofs.YtbddfnmhhmkfkaaW.PrintLast Go.Proofs.YtbddfnmhhmkfkaaW.PrintMore
attribute [local go_sem] max2_int min2_int max_two min_two max_three min_three max_four min_four
mutual
def stylusref19_Check.j0 : Nat → List (S43) → Bool → Option (Int)
 | 0, _, _ => none
 | k + 1, x0, x17 => if x17 = true then (some 1) else (stylusref19_Check.l0 k x0 0)
def stylusref19_Check.l0 : Nat → List (S43) → Int → Option (Int)
 | 0, _, _ => none
 | k + 1, x0, x5 => if x5 < (x0.length : Int) then (if 0 ≤ x5 then (if ((rd_T43 x0 x5).f0) < 1 then (some 1) else (if ((rd_T43 x0 x5).f0) > 4 then (some 1) else (if ((rd_T43 x0 x5).f1) < 0 then (some 1) else (if ((rd_T43 x0 x5).f2) < 0 then (some 1) else (if ((rd_T43 x0 x5).f3) < 0 then (some 1) else (if ((rd_T43 x0 x5).f1) > 2000 then (some 1) else (if ((rd_T43 x0 x5).f2) > 2000 then (some 1) else (if ((rd_T43 x0 x5).f3) > 2000 then (some 1) else (stylusref19_Check.l0 k x0 (wrap64 (x5 + 1))))))))))) else (none)) else (some 0)
end
def stylusref19_Check.f (k : Nat) (l0 : List (S43)) (a1 : Int) : Option (Int) := if a1 < 1 then (stylusref19_Check.j0 k l0 true) else (if a1 > 1000000 then (stylusref19_Check.j0 k l0 true) else (stylusref19_Check.j0 k l0 (decide ((l0.length : Int) > 16384))))
theorem stylusref19_Check.mono_l : ∀ k, (∀ y0 y1, LeO (stylusref19_Check.j0 k y0 y1) (stylusref19_Check.j0 (k + 1) y0 y1)) ∧ (∀ y0 y1, LeO (stylusref19_Check.l0 k y0 y1) (stylusref19_Check.l0 (k + 1) y0 y1))
 | 0 => ⟨fun _ _ r h => by simp [stylusref19_Check.j0] at h, fun _ _ r h => by simp [stylusref19_Check.l0] at h⟩
 | k + 1 => by
  obtain ⟨ih0, ih1⟩ := stylusref19_Check.mono_l k
  refine ⟨?_, ?_⟩
  ·intro y0 y1
   unfold stylusref19_Check.j0
   repeat' first
   | (with_reducible exact ih0 _ _)
   | (with_reducible exact ih1 _ _)
   | (with_reducible exact LeO.refl _)
   | (with_reducible exact LeO.none _)
   | (with_reducible refine LeO.ite ?_ ?_)
   | (with_reducible refine LeO.bind ?_ (fun _ => ?_))
   | exact ih0 _ _
   | exact ih1 _ _
   | exact LeO.none _
   | refine LeO.ite ?_ ?_
   | refine LeO.bind ?_ (fun _ => ?_)
  ·intro y0 y1
   unfold stylusref19_Check.l0
   repeat' first
   | (with_reducible exact ih0 _ _)
   | (with_reducible exact ih1 _ _)
   | (with_reducible exact LeO.refl _)
   | (with_reducible exact LeO.none _)
   | (with_reducible refine LeO.ite ?_ ?_)
   | (with_reducible refine LeO.bind ?_ (fun _ => ?_))
   | exact ih0 _ _
   | exact ih1 _ _
   | exact LeO.none _
   | refine LeO.ite ?_ ?_
   | refine LeO.bind ?_ (fun _ => ?_)
theorem stylusref19_Check.mono : ∀ a0 a1 k, LeO (stylusref19_Check.f k a0 a1) (stylusref19_Check.f (k + 1) a0 a1) := by
 intro a0 a1 k
 obtain ⟨ih0, ih1⟩ := stylusref19_Check.mono_l k
 unfold stylusref19_Check.f
 repeat' first
   | (with_reducible exact ih0 _ _)
   | (with_reducible exact ih1 _ _)
   | (with_reducible exact LeO.refl _)
   | (with_reducible exact LeO.none _)
   | (with_reducible refine LeO.ite ?_ ?_)
   | (with_reducible refine LeO.bind ?_ (fun _ => ?_))
   | exact ih0 _ _
   | exact ih1 _ _
   | exact LeO.none _
   | refine LeO.ite ?_ ?_
   | refine LeO.bind ?_ (fun _ => ?_)
set_option maxHeartbeats 8000000 in
set_option maxRecDepth 100000 in
theorem stylusref19_Check.calls (k : Nat) (A0 : Option Addr) (c0 : Nat) (l0 : List (S43)) (a1 : Int) (r : Int) (w : World) (hr0 : Kd.C k43 w A0 l0.length l0) (hc0 : l0.length ≤ c0) (h : stylusref19_Check.f k l0 a1 = some r) :
  Calls Try.prog 17 #[.slice A0 l0.length c0, .int .i64 a1] w fun e w' => e = .returned (.int .i64 r) ∧ Below w.heap.size w w' := by
 have hu43 := Try.underlying43
 have HR0 := Aside0.mk hr0
 have HC0 := Aside0.mk hc0
 clear hr0 hc0
 have HB := Aside0.mk (Below.refl w.heap.size w)
 have H : (if a1 < 1 then (stylusref19_Check.j0 k l0 true) else (if a1 > 1000000 then (stylusref19_Check.j0 k l0 true) else (stylusref19_Check.j0 k l0 (decide ((l0.length : Int) > 16384))))) = some r := h
 clear h
 have HC3 := Aside0.mk H
 clear H
 go_enter Try.func17, Try.ntmps17
 go_upto_region 1 with (fail)
 go_cut [17] (fun v17 wc => ∃ (kq : Nat) (x17_2 : Bool), v17 = .bool x17_2 ∧ Aside0 (stylusref19_Check.j0 kq l0 x17_2 = some r) ∧ Aside0 (kq ≤ k) ∧ Aside0 (Below w.heap.size w wc))
 case first =>
  have H := HC3.out
  clear HC3
  by_cases c4 : a1 < 1
  ·rw [if_pos c4] at H
   have c4b0 : decide (a1 < 1) = true := decide_eq_true c4
   clear c4
   (first | rw [c4b0] | (simp only [i64_w, i32_w]; rw [c4b0]) | skip)
   have H' := Aside0.mk H
   clear H
   go_wp2
   go_meet
   case rel => exact ⟨_, (true), (by first | rfl | (simp; done) | (simp [*]; done)), H', ⟨by first | omega | exact Nat.le_refl _⟩, ⟨by repeat (with_reducible first | exact HB.out | apply below_alloc | apply pw_below_drewN | apply below_drew1)⟩⟩
  ·rw [if_neg c4] at H
   have c4b0 : decide (a1 < 1) = false := decide_eq_false c4
   clear c4
   (first | rw [c4b0] | (simp only [i64_w, i32_w]; rw [c4b0]) | skip)
   by_cases c5 : a1 > 1000000
   ·rw [if_pos c5] at H
    have c5b0 : decide (1000000 < a1) = true := decide_eq_true c5
    clear c5
    have H' := Aside0.mk H
    clear H
    go_wp2
    go_meet
    case rel => exact ⟨_, (true), (by first | rfl | (simp; done) | (simp [*]; done)), H', ⟨by first | omega | exact Nat.le_refl _⟩, ⟨by repeat (with_reducible first | exact HB.out | apply below_alloc | apply pw_below_drewN | apply below_drew1)⟩⟩
   ·rw [if_neg c5] at H
    have c5b0 : decide (1000000 < a1) = false := decide_eq_false c5
    clear c5
    have H' := Aside0.mk H
    clear H
    go_wp2
    go_meet
    case rel => exact ⟨_, (decide ((l0.length : Int) > 16384)), (by first | rfl | (simp; done) | (simp [*]; done)), H', ⟨by first | omega | exact Nat.le_refl _⟩, ⟨by repeat (with_reducible first | exact HB.out | apply below_alloc | apply pw_below_drewN | apply below_drew1)⟩⟩
 case rest =>
  clear HC3
  try clear c1
  try clear p2
  try clear c4
  try clear c4b0
  try clear c5
  try clear c5b0
  obtain ⟨kq, x17_2, rfl, HA, HJ2, HB⟩ := hcut
  cases kq with
  | zero => exact absurd HA.out (by simp [stylusref19_Check.j0])
  | succ kj2 =>
   have H := HA.out
   clear HA
   simp only [stylusref19_Check.j0] at H
   by_cases c6 : x17_2 = true
   ·subst c6
    rw [if_pos rfl] at H
    obtain rfl := Option.some.inj H
    go_wp2
    go_ret
    exact ⟨by first | rfl | (simp [errW_none, errW_some] <;> rfl) | (simp [*, errW_none, errW_some] <;> rfl), by repeat (with_reducible first | exact HB.out | apply below_alloc | apply pw_below_drewN | apply below_drew1)⟩
   ·replace c6 := Bool.eq_false_iff.mpr c6
    subst c6
    rw [if_neg (show ¬ (false = true) by decide)] at H
    have H' := Aside0.mk H
    clear H
    go_wp2
    go_loopg [5] kj2 (fun kq v5 w' => ∃ (x5_2 : Int), v5 = .int .i64 x5_2 ∧ Aside0 (stylusref19_Check.l0 kq l0 x5_2 = some r) ∧ Aside0 (kq ≤ kj2) ∧ Aside0 (Below w.heap.size w w'))
    case atStart => exact ⟨(0), (by first | rfl | (simp; done) | (simp [*]; done)), H', ⟨Nat.le_refl _⟩, ⟨by repeat (with_reducible first | exact HB.out | apply below_alloc | apply pw_below_drewN | apply below_drew1)⟩⟩
    case round =>
     clear H'
     try clear c1
     try clear p2
     try clear c4
     try clear c4b0
     try clear c5
     try clear c5b0
     try clear c6
     try clear p2
     obtain ⟨x5_2, rfl, HA, HK2, HB⟩ := hrel
     cases gk with
     | zero => exact absurd HA.out (by simp [stylusref19_Check.l0])
     | succ k2 =>
      have H := HA.out
      clear HA
      simp only [stylusref19_Check.l0] at H
      by_cases c7 : x5_2 < (l0.length : Int)
      ·rw [if_pos c7] at H
       have c7b0 : decide (x5_2 < (l0.length : Int)) = true := decide_eq_true c7
       clear c7
       by_cases c8 : 0 ≤ x5_2
       ·rw [if_pos c8] at H
        have c8b0 : decide (0 ≤ x5_2) = true := decide_eq_true c8
        clear c8
        by_cases c9 : ((rd_T43 l0 x5_2).f0) < 1
        ·rw [if_pos c9] at H
         have c9b0 : decide (((rd_T43 l0 x5_2).f0) < 1) = true := decide_eq_true c9
         clear c9
         obtain rfl := Option.some.inj H
         have p188 : 0 ≤ (x5_2 : Int) := of_decide_eq_true (by first | (with_reducible assumption) | assumption)
         have q188 : x5_2 < (l0.length : Int) := of_decide_eq_true (by first | (with_reducible assumption) | assumption)
         obtain ⟨ad188, e188, hx188_0, hx188_1, hx188_2, hx188_3, hx188_4⟩ := at_T43 HR0.out x5_2 p188 q188
         cases e188
         replace hx188_0 := (HB.out.cell (World.block_lt_of_cell? w _ hx188_0)).trans hx188_0
         replace hx188_1 := (HB.out.cell (World.block_lt_of_cell? w _ hx188_1)).trans hx188_1
         replace hx188_2 := (HB.out.cell (World.block_lt_of_cell? w _ hx188_2)).trans hx188_2
         replace hx188_3 := (HB.out.cell (World.block_lt_of_cell? w _ hx188_3)).trans hx188_3
         replace hx188_4 := (HB.out.cell (World.block_lt_of_cell? w _ hx188_4)).trans hx188_4
         replace p188 := eq_true p188
         replace q188 := eq_true q188
         go_wp2_with (first | ((with_reducible refine gate_dst (N := 6) rfl ?_); (try (refine gate_guard (by rfl) ?_; dsimp only)); refine box_event ?hg (N := 6) ?hd (cs := #[.int .i64 0, .int .i64 0, .int .i64 0, .int .i64 0, .int .i64 0]) (t := 43) ?hr ?_; (case hd => rfl); (case hg => rfl); (case hr => first | (go_simp; done) | (go_simp; rfl)); intro gb189 hg w10 hbox hb; have n0_ := Aside0.mk (below_step (by repeat (with_reducible first | exact HB.out | apply below_alloc | apply pw_below_drewN | apply below_drew1)) hb); have n1_ := Aside0.mk (hbox); have n2_ := Aside0.mk ((by rw [hg]; exact (below_size (by repeat (with_reducible first | exact HB.out | apply below_alloc | apply pw_below_drewN | apply below_drew1))) : w.heap.size ≤ gb189)); have n3_ := n2_; clear HB; have HB := n0_; have BK189 := n1_; have GW189 := n2_; have GE189 := n3_; clear n0_ n1_ n2_ n3_; clear hb hbox hg; obtain ⟨hcz11_0, hcz11_1, hcz11_2, hcz11_3, hcz11_4, hfz11_0, hfz11_1, hfz11_2, hfz11_3, hfz11_4⟩ := blks5 BK189.out))
         go_ret
         exact ⟨by first | rfl | (simp [errW_none, errW_some] <;> rfl) | (simp [*, errW_none, errW_some] <;> rfl), by repeat (with_reducible first | exact HB.out | apply below_alloc | apply pw_below_drewN | apply below_drew1 | refine below_set ?_ GE189.out)⟩
        ·rw [if_neg c9] at H
         have c9b0 : decide (((rd_T43 l0 x5_2).f0) < 1) = false := decide_eq_false c9
         clear c9
         by_cases c12 : ((rd_T43 l0 x5_2).f0) > 4
         ·rw [if_pos c12] at H
          have c12b0 : decide (4 < ((rd_T43 l0 x5_2).f0)) = true := decide_eq_true c12
          clear c12
          obtain rfl := Option.some.inj H
          have p188 : 0 ≤ (x5_2 : Int) := of_decide_eq_true (by first | (with_reducible assumption) | assumption)
          have q188 : x5_2 < (l0.length : Int) := of_decide_eq_true (by first | (with_reducible assumption) | assumption)
          obtain ⟨ad188, e188, hx188_0, hx188_1, hx188_2, hx188_3, hx188_4⟩ := at_T43 HR0.out x5_2 p188 q188
          cases e188
          replace hx188_0 := (HB.out.cell (World.block_lt_of_cell? w _ hx188_0)).trans hx188_0
          replace hx188_1 := (HB.out.cell (World.block_lt_of_cell? w _ hx188_1)).trans hx188_1
          replace hx188_2 := (HB.out.cell (World.block_lt_of_cell? w _ hx188_2)).trans hx188_2
          replace hx188_3 := (HB.out.cell (World.block_lt_of_cell? w _ hx188_3)).trans hx188_3
          replace hx188_4 := (HB.out.cell (World.block_lt_of_cell? w _ hx188_4)).trans hx188_4
          replace p188 := eq_true p188
          replace q188 := eq_true q188
          go_wp2_with (first | ((with_reducible refine gate_dst (N := 6) rfl ?_); (try (refine gate_guard (by rfl) ?_; dsimp only)); refine box_event ?hg (N := 6) ?hd (cs := #[.int .i64 0, .int .i64 0, .int .i64 0, .int .i64 0, .int .i64 0]) (t := 43) ?hr ?_; (case hd => rfl); (case hg => rfl); (case hr => first | (go_simp; done) | (go_simp; rfl)); intro gb189 hg w13 hbox hb; have n0_ := Aside0.mk (below_step (by repeat (with_reducible first | exact HB.out | apply below_alloc | apply pw_below_drewN | apply below_drew1)) hb); have n1_ := Aside0.mk (hbox); have n2_ := Aside0.mk ((by rw [hg]; exact (below_size (by repeat (with_reducible first | exact HB.out | apply below_alloc | apply pw_below_drewN | apply below_drew1))) : w.heap.size ≤ gb189)); have n3_ := n2_; clear HB; have HB := n0_; have BK189 := n1_; have GW189 := n2_; have GE189 := n3_; clear n0_ n1_ n2_ n3_; clear hb hbox hg; obtain ⟨hcz14_0, hcz14_1, hcz14_2, hcz14_3, hcz14_4, hfz14_0, hfz14_1, hfz14_2, hfz14_3, hfz14_4⟩ := blks5 BK189.out))
          go_ret
          exact ⟨by first | rfl | (simp [errW_none, errW_some] <;> rfl) | (simp [*, errW_none, errW_some] <;> rfl), by repeat (with_reducible first | exact HB.out | apply below_alloc | apply pw_below_drewN | apply below_drew1 | refine below_set ?_ GE189.out)⟩
         ·rw [if_neg c12] at H
          have c12b0 : decide (4 < ((rd_T43 l0 x5_2).f0)) = false := decide_eq_false c12
          clear c12
          by_cases c15 : ((rd_T43 l0 x5_2).f1) < 0
          ·rw [if_pos c15] at H
           have c15b0 : decide (((rd_T43 l0 x5_2).f1) < 0) = true := decide_eq_true c15
           clear c15
           obtain rfl := Option.some.inj H
           have p188 : 0 ≤ (x5_2 : Int) := of_decide_eq_true (by first | (with_reducible assumption) | assumption)
           have q188 : x5_2 < (l0.length : Int) := of_decide_eq_true (by first | (with_reducible assumption) | assumption)
           obtain ⟨ad188, e188, hx188_0, hx188_1, hx188_2, hx188_3, hx188_4⟩ := at_T43 HR0.out x5_2 p188 q188
           cases e188
           replace hx188_0 := (HB.out.cell (World.block_lt_of_cell? w _ hx188_0)).trans hx188_0
           replace hx188_1 := (HB.out.cell (World.block_lt_of_cell? w _ hx188_1)).trans hx188_1
           replace hx188_2 := (HB.out.cell (World.block_lt_of_cell? w _ hx188_2)).trans hx188_2
           replace hx188_3 := (HB.out.cell (World.block_lt_of_cell? w _ hx188_3)).trans hx188_3
           replace hx188_4 := (HB.out.cell (World.block_lt_of_cell? w _ hx188_4)).trans hx188_4
           replace p188 := eq_true p188
           replace q188 := eq_true q188
           go_wp2_with (first | ((with_reducible refine gate_dst (N := 6) rfl ?_); (try (refine gate_guard (by rfl) ?_; dsimp only)); refine box_event ?hg (N := 6) ?hd (cs := #[.int .i64 0, .int .i64 0, .int .i64 0, .int .i64 0, .int .i64 0]) (t := 43) ?hr ?_; (case hd => rfl); (case hg => rfl); (case hr => first | (go_simp; done) | (go_simp; rfl)); intro gb189 hg w16 hbox hb; have n0_ := Aside0.mk (below_step (by repeat (with_reducible first | exact HB.out | apply below_alloc | apply pw_below_drewN | apply below_drew1)) hb); have n1_ := Aside0.mk (hbox); have n2_ := Aside0.mk ((by rw [hg]; exact (below_size (by repeat (with_reducible first | exact HB.out | apply below_alloc | apply pw_below_drewN | apply below_drew1))) : w.heap.size ≤ gb189)); have n3_ := n2_; clear HB; have HB := n0_; have BK189 := n1_; have GW189 := n2_; have GE189 := n3_; clear n0_ n1_ n2_ n3_; clear hb hbox hg; obtain ⟨hcz17_0, hcz17_1, hcz17_2, hcz17_3, hcz17_4, hfz17_0, hfz17_1, hfz17_2, hfz17_3, hfz17_4⟩ := blks5 BK189.out))
           go_ret
           exact ⟨by first | rfl | (simp [errW_none, errW_some] <;> rfl) | (simp [*, errW_none, errW_some] <;> rfl), by repeat (with_reducible first | exact HB.out | apply below_alloc | apply pw_below_drewN | apply below_drew1 | refine below_set ?_ GE189.out)⟩
          ·rw [if_neg c15] at H
           have c15b0 : decide (((rd_T43 l0 x5_2).f1) < 0) = false := decide_eq_false c15
           clear c15
           by_cases c18 : ((rd_T43 l0 x5_2).f2) < 0
           ·rw [if_pos c18] at H
            have c18b0 : decide (((rd_T43 l0 x5_2).f2) < 0) = true := decide_eq_true c18
            clear c18
            obtain rfl := Option.some.inj H
            have p188 : 0 ≤ (x5_2 : Int) := of_decide_eq_true (by first | (with_reducible assumption) | assumption)
            have q188 : x5_2 < (l0.length : Int) := of_decide_eq_true (by first | (with_reducible assumption) | assumption)
            obtain ⟨ad188, e188, hx188_0, hx188_1, hx188_2, hx188_3, hx188_4⟩ := at_T43 HR0.out x5_2 p188 q188
            cases e188
            replace hx188_0 := (HB.out.cell (World.block_lt_of_cell? w _ hx188_0)).trans hx188_0
            replace hx188_1 := (HB.out.cell (World.block_lt_of_cell? w _ hx188_1)).trans hx188_1
            replace hx188_2 := (HB.out.cell (World.block_lt_of_cell? w _ hx188_2)).trans hx188_2
            replace hx188_3 := (HB.out.cell (World.block_lt_of_cell? w _ hx188_3)).trans hx188_3
            replace hx188_4 := (HB.out.cell (World.block_lt_of_cell? w _ hx188_4)).trans hx188_4
            replace p188 := eq_true p188
            replace q188 := eq_true q188
            go_wp2_with (first | ((with_reducible refine gate_dst (N := 6) rfl ?_); (try (refine gate_guard (by rfl) ?_; dsimp only)); refine box_event ?hg (N := 6) ?hd (cs := #[.int .i64 0, .int .i64 0, .int .i64 0, .int .i64 0, .int .i64 0]) (t := 43) ?hr ?_; (case hd => rfl); (case hg => rfl); (case hr => first | (go_simp; done) | (go_simp; rfl)); intro gb189 hg w19 hbox hb; have n0_ := Aside0.mk (below_step (by repeat (with_reducible first | exact HB.out | apply below_alloc | apply pw_below_drewN | apply below_drew1)) hb); have n1_ := Aside0.mk (hbox); have n2_ := Aside0.mk ((by rw [hg]; exact (below_size (by repeat (with_reducible first | exact HB.out | apply below_alloc | apply pw_below_drewN | apply below_drew1))) : w.heap.size ≤ gb189)); have n3_ := n2_; clear HB; have HB := n0_; have BK189 := n1_; have GW189 := n2_; have GE189 := n3_; clear n0_ n1_ n2_ n3_; clear hb hbox hg; obtain ⟨hcz20_0, hcz20_1, hcz20_2, hcz20_3, hcz20_4, hfz20_0, hfz20_1, hfz20_2, hfz20_3, hfz20_4⟩ := blks5 BK189.out))
            go_ret
            exact ⟨by first | rfl | (simp [errW_none, errW_some] <;> rfl) | (simp [*, errW_none, errW_some] <;> rfl), by repeat (with_reducible first | exact HB.out | apply below_alloc | apply pw_below_drewN | apply below_drew1 | refine below_set ?_ GE189.out)⟩
           ·rw [if_neg c18] at H
            have c18b0 : decide (((rd_T43 l0 x5_2).f2) < 0) = false := decide_eq_false c18
            clear c18
            by_cases c21 : ((rd_T43 l0 x5_2).f3) < 0
            ·rw [if_pos c21] at H
             have c21b0 : decide (((rd_T43 l0 x5_2).f3) < 0) = true := decide_eq_true c21
             clear c21
             obtain rfl := Option.some.inj H
             have p188 : 0 ≤ (x5_2 : Int) := of_decide_eq_true (by first | (with_reducible assumption) | assumption)
             have q188 : x5_2 < (l0.length : Int) := of_decide_eq_true (by first | (with_reducible assumption) | assumption)
             obtain ⟨ad188, e188, hx188_0, hx188_1, hx188_2, hx188_3, hx188_4⟩ := at_T43 HR0.out x5_2 p188 q188
             cases e188
             replace hx188_0 := (HB.out.cell (World.block_lt_of_cell? w _ hx188_0)).trans hx188_0
             replace hx188_1 := (HB.out.cell (World.block_lt_of_cell? w _ hx188_1)).trans hx188_1
             replace hx188_2 := (HB.out.cell (World.block_lt_of_cell? w _ hx188_2)).trans hx188_2
             replace hx188_3 := (HB.out.cell (World.block_lt_of_cell? w _ hx188_3)).trans hx188_3
             replace hx188_4 := (HB.out.cell (World.block_lt_of_cell? w _ hx188_4)).trans hx188_4
             replace p188 := eq_true p188
             replace q188 := eq_true q188
             go_wp2_with (first | ((with_reducible refine gate_dst (N := 6) rfl ?_); (try (refine gate_guard (by rfl) ?_; dsimp only)); refine box_event ?hg (N := 6) ?hd (cs := #[.int .i64 0, .int .i64 0, .int .i64 0, .int .i64 0, .int .i64 0]) (t := 43) ?hr ?_; (case hd => rfl); (case hg => rfl); (case hr => first | (go_simp; done) | (go_simp; rfl)); intro gb189 hg w22 hbox hb; have n0_ := Aside0.mk (below_step (by repeat (with_reducible first | exact HB.out | apply below_alloc | apply pw_below_drewN | apply below_drew1)) hb); have n1_ := Aside0.mk (hbox); have n2_ := Aside0.mk ((by rw [hg]; exact (below_size (by repeat (with_reducible first | exact HB.out | apply below_alloc | apply pw_below_drewN | apply below_drew1))) : w.heap.size ≤ gb189)); have n3_ := n2_; clear HB; have HB := n0_; have BK189 := n1_; have GW189 := n2_; have GE189 := n3_; clear n0_ n1_ n2_ n3_; clear hb hbox hg; obtain ⟨hcz23_0, hcz23_1, hcz23_2, hcz23_3, hcz23_4, hfz23_0, hfz23_1, hfz23_2, hfz23_3, hfz23_4⟩ := blks5 BK189.out))
             go_ret
             exact ⟨by first | rfl | (simp [errW_none, errW_some] <;> rfl) | (simp [*, errW_none, errW_some] <;> rfl), by repeat (with_reducible first | exact HB.out | apply below_alloc | apply pw_below_drewN | apply below_drew1 | refine below_set ?_ GE189.out)⟩
            ·rw [if_neg c21] at H
             have c21b0 : decide (((rd_T43 l0 x5_2).f3) < 0) = false := decide_eq_false c21
             clear c21
             by_cases c24 : ((rd_T43 l0 x5_2).f1) > 2000
             ·rw [if_pos c24] at H
              have c24b0 : decide (2000 < ((rd_T43 l0 x5_2).f1)) = true := decide_eq_true c24
              clear c24
              obtain rfl := Option.some.inj H
              have p188 : 0 ≤ (x5_2 : Int) := of_decide_eq_true (by first | (with_reducible assumption) | assumption)
              have q188 : x5_2 < (l0.length : Int) := of_decide_eq_true (by first | (with_reducible assumption) | assumption)
              obtain ⟨ad188, e188, hx188_0, hx188_1, hx188_2, hx188_3, hx188_4⟩ := at_T43 HR0.out x5_2 p188 q188
              cases e188
              replace hx188_0 := (HB.out.cell (World.block_lt_of_cell? w _ hx188_0)).trans hx188_0
              replace hx188_1 := (HB.out.cell (World.block_lt_of_cell? w _ hx188_1)).trans hx188_1
              replace hx188_2 := (HB.out.cell (World.block_lt_of_cell? w _ hx188_2)).trans hx188_2
              replace hx188_3 := (HB.out.cell (World.block_lt_of_cell? w _ hx188_3)).trans hx188_3
              replace hx188_4 := (HB.out.cell (World.block_lt_of_cell? w _ hx188_4)).trans hx188_4
              replace p188 := eq_true p188
              replace q188 := eq_true q188
              go_wp2_with (first | ((with_reducible refine gate_dst (N := 6) rfl ?_); (try (refine gate_guard (by rfl) ?_; dsimp only)); refine box_event ?hg (N := 6) ?hd (cs := #[.int .i64 0, .int .i64 0, .int .i64 0, .int .i64 0, .int .i64 0]) (t := 43) ?hr ?_; (case hd => rfl); (case hg => rfl); (case hr => first | (go_simp; done) | (go_simp; rfl)); intro gb189 hg w25 hbox hb; have n0_ := Aside0.mk (below_step (by repeat (with_reducible first | exact HB.out | apply below_alloc | apply pw_below_drewN | apply below_drew1)) hb); have n1_ := Aside0.mk (hbox); have n2_ := Aside0.mk ((by rw [hg]; exact (below_size (by repeat (with_reducible first | exact HB.out | apply below_alloc | apply pw_below_drewN | apply below_drew1))) : w.heap.size ≤ gb189)); have n3_ := n2_; clear HB; have HB := n0_; have BK189 := n1_; have GW189 := n2_; have GE189 := n3_; clear n0_ n1_ n2_ n3_; clear hb hbox hg; obtain ⟨hcz26_0, hcz26_1, hcz26_2, hcz26_3, hcz26_4, hfz26_0, hfz26_1, hfz26_2, hfz26_3, hfz26_4⟩ := blks5 BK189.out))
              go_ret
              exact ⟨by first | rfl | (simp [errW_none, errW_some] <;> rfl) | (simp [*, errW_none, errW_some] <;> rfl), by repeat (with_reducible first | exact HB.out | apply below_alloc | apply pw_below_drewN | apply below_drew1 | refine below_set ?_ GE189.out)⟩
             ·rw [if_neg c24] at H
              have c24b0 : decide (2000 < ((rd_T43 l0 x5_2).f1)) = false := decide_eq_false c24
              clear c24
              by_cases c27 : ((rd_T43 l0 x5_2).f2) > 2000
              ·rw [if_pos c27] at H
               have c27b0 : decide (2000 < ((rd_T43 l0 x5_2).f2)) = true := decide_eq_true c27
               clear c27
               obtain rfl := Option.some.inj H
               have p188 : 0 ≤ (x5_2 : Int) := of_decide_eq_true (by first | (with_reducible assumption) | assumption)
               have q188 : x5_2 < (l0.length : Int) := of_decide_eq_true (by first | (with_reducible assumption) | assumption)
               obtain ⟨ad188, e188, hx188_0, hx188_1, hx188_2, hx188_3, hx188_4⟩ := at_T43 HR0.out x5_2 p188 q188
               cases e188
               replace hx188_0 := (HB.out.cell (World.block_lt_of_cell? w _ hx188_0)).trans hx188_0
               replace hx188_1 := (HB.out.cell (World.block_lt_of_cell? w _ hx188_1)).trans hx188_1
               replace hx188_2 := (HB.out.cell (World.block_lt_of_cell? w _ hx188_2)).trans hx188_2
               replace hx188_3 := (HB.out.cell (World.block_lt_of_cell? w _ hx188_3)).trans hx188_3
               replace hx188_4 := (HB.out.cell (World.block_lt_of_cell? w _ hx188_4)).trans hx188_4
               replace p188 := eq_true p188
               replace q188 := eq_true q188
               go_wp2_with (first | ((with_reducible refine gate_dst (N := 6) rfl ?_); (try (refine gate_guard (by rfl) ?_; dsimp only)); refine box_event ?hg (N := 6) ?hd (cs := #[.int .i64 0, .int .i64 0, .int .i64 0, .int .i64 0, .int .i64 0]) (t := 43) ?hr ?_; (case hd => rfl); (case hg => rfl); (case hr => first | (go_simp; done) | (go_simp; rfl)); intro gb189 hg w28 hbox hb; have n0_ := Aside0.mk (below_step (by repeat (with_reducible first | exact HB.out | apply below_alloc | apply pw_below_drewN | apply below_drew1)) hb); have n1_ := Aside0.mk (hbox); have n2_ := Aside0.mk ((by rw [hg]; exact (below_size (by repeat (with_reducible first | exact HB.out | apply below_alloc | apply pw_below_drewN | apply below_drew1))) : w.heap.size ≤ gb189)); have n3_ := n2_; clear HB; have HB := n0_; have BK189 := n1_; have GW189 := n2_; have GE189 := n3_; clear n0_ n1_ n2_ n3_; clear hb hbox hg; obtain ⟨hcz29_0, hcz29_1, hcz29_2, hcz29_3, hcz29_4, hfz29_0, hfz29_1, hfz29_2, hfz29_3, hfz29_4⟩ := blks5 BK189.out))
               go_ret
               exact ⟨by first | rfl | (simp [errW_none, errW_some] <;> rfl) | (simp [*, errW_none, errW_some] <;> rfl), by repeat (with_reducible first | exact HB.out | apply below_alloc | apply pw_below_drewN | apply below_drew1 | refine below_set ?_ GE189.out)⟩
              ·rw [if_neg c27] at H
               have c27b0 : decide (2000 < ((rd_T43 l0 x5_2).f2)) = false := decide_eq_false c27
               clear c27
               by_cases c30 : ((rd_T43 l0 x5_2).f3) > 2000
               ·rw [if_pos c30] at H
                have c30b0 : decide (2000 < ((rd_T43 l0 x5_2).f3)) = true := decide_eq_true c30
                clear c30
                obtain rfl := Option.some.inj H
                have p188 : 0 ≤ (x5_2 : Int) := of_decide_eq_true (by first | (with_reducible assumption) | assumption)
                have q188 : x5_2 < (l0.length : Int) := of_decide_eq_true (by first | (with_reducible assumption) | assumption)
                obtain ⟨ad188, e188, hx188_0, hx188_1, hx188_2, hx188_3, hx188_4⟩ := at_T43 HR0.out x5_2 p188 q188
                cases e188
                replace hx188_0 := (HB.out.cell (World.block_lt_of_cell? w _ hx188_0)).trans hx188_0
                replace hx188_1 := (HB.out.cell (World.block_lt_of_cell? w _ hx188_1)).trans hx188_1
                replace hx188_2 := (HB.out.cell (World.block_lt_of_cell? w _ hx188_2)).trans hx188_2
                replace hx188_3 := (HB.out.cell (World.block_lt_of_cell? w _ hx188_3)).trans hx188_3
                replace hx188_4 := (HB.out.cell (World.block_lt_of_cell? w _ hx188_4)).trans hx188_4
                replace p188 := eq_true p188
                replace q188 := eq_true q188
                go_wp2_with (first | ((with_reducible refine gate_dst (N := 6) rfl ?_); (try (refine gate_guard (by rfl) ?_; dsimp only)); refine box_event ?hg (N := 6) ?hd (cs := #[.int .i64 0, .int .i64 0, .int .i64 0, .int .i64 0, .int .i64 0]) (t := 43) ?hr ?_; (case hd => rfl); (case hg => rfl); (case hr => first | (go_simp; done) | (go_simp; rfl)); intro gb189 hg w31 hbox hb; have n0_ := Aside0.mk (below_step (by repeat (with_reducible first | exact HB.out | apply below_alloc | apply pw_below_drewN | apply below_drew1)) hb); have n1_ := Aside0.mk (hbox); have n2_ := Aside0.mk ((by rw [hg]; exact (below_size (by repeat (with_reducible first | exact HB.out | apply below_alloc | apply pw_below_drewN | apply below_drew1))) : w.heap.size ≤ gb189)); have n3_ := n2_; clear HB; have HB := n0_; have BK189 := n1_; have GW189 := n2_; have GE189 := n3_; clear n0_ n1_ n2_ n3_; clear hb hbox hg; obtain ⟨hcz32_0, hcz32_1, hcz32_2, hcz32_3, hcz32_4, hfz32_0, hfz32_1, hfz32_2, hfz32_3, hfz32_4⟩ := blks5 BK189.out))
                go_ret
                exact ⟨by first | rfl | (simp [errW_none, errW_some] <;> rfl) | (simp [*, errW_none, errW_some] <;> rfl), by repeat (with_reducible first | exact HB.out | apply below_alloc | apply pw_below_drewN | apply below_drew1 | refine below_set ?_ GE189.out)⟩
               ·rw [if_neg c30] at H
                have c30b0 : decide (2000 < ((rd_T43 l0 x5_2).f3)) = false := decide_eq_false c30
                clear c30
                have H' := Aside0.mk H
                clear H
                have p188 : 0 ≤ (x5_2 : Int) := of_decide_eq_true (by first | (with_reducible assumption) | assumption)
                have q188 : x5_2 < (l0.length : Int) := of_decide_eq_true (by first | (with_reducible assumption) | assumption)
                obtain ⟨ad188, e188, hx188_0, hx188_1, hx188_2, hx188_3, hx188_4⟩ := at_T43 HR0.out x5_2 p188 q188
                cases e188
                replace hx188_0 := (HB.out.cell (World.block_lt_of_cell? w _ hx188_0)).trans hx188_0
                replace hx188_1 := (HB.out.cell (World.block_lt_of_cell? w _ hx188_1)).trans hx188_1
                replace hx188_2 := (HB.out.cell (World.block_lt_of_cell? w _ hx188_2)).trans hx188_2
                replace hx188_3 := (HB.out.cell (World.block_lt_of_cell? w _ hx188_3)).trans hx188_3
                replace hx188_4 := (HB.out.cell (World.block_lt_of_cell? w _ hx188_4)).trans hx188_4
                replace p188 := eq_true p188
                replace q188 := eq_true q188
                go_wp2_with (first | ((with_reducible refine gate_dst (N := 6) rfl ?_); (try (refine gate_guard (by rfl) ?_; dsimp only)); refine box_event ?hg (N := 6) ?hd (cs := #[.int .i64 0, .int .i64 0, .int .i64 0, .int .i64 0, .int .i64 0]) (t := 43) ?hr ?_; (case hd => rfl); (case hg => rfl); (case hr => first | (go_simp; done) | (go_simp; rfl)); intro gb189 hg w33 hbox hb; have n0_ := Aside0.mk (below_step (by repeat (with_reducible first | exact HB.out | apply below_alloc | apply pw_below_drewN | apply below_drew1)) hb); have n1_ := Aside0.mk (hbox); have n2_ := Aside0.mk ((by rw [hg]; exact (below_size (by repeat (with_reducible first | exact HB.out | apply below_alloc | apply pw_below_drewN | apply below_drew1))) : w.heap.size ≤ gb189)); have n3_ := n2_; clear HB; have HB := n0_; have BK189 := n1_; have GW189 := n2_; have GE189 := n3_; clear n0_ n1_ n2_ n3_; clear hb hbox hg; obtain ⟨hcz34_0, hcz34_1, hcz34_2, hcz34_3, hcz34_4, hfz34_0, hfz34_1, hfz34_2, hfz34_3, hfz34_4⟩ := blks5 BK189.out))
                go_roundg k2
                case measure => have := HJ2.out; have := HK2.out; omega
                case rel => exact ⟨(wrap64 (x5_2 + 1)), (by first | rfl | (simp; done) | (simp [*]; done)), H', ⟨by have := HJ2.out; have := HK2.out; omega⟩, ⟨by repeat (with_reducible first | exact HB.out | apply below_alloc | apply pw_below_drewN | apply below_drew1 | refine below_set ?_ GE189.out)⟩⟩
       ·rw [if_neg c8] at H
        exact absurd H (by simp)
      ·rw [if_neg c7] at H
       have c7b0 : decide (x5_2 < (l0.length : Int)) = false := decide_eq_false c7
       clear c7
       obtain rfl := Option.some.inj H
       go_wp2
       go_ret
       exact ⟨by first | rfl | (simp [errW_none, errW_some] <;> rfl) | (simp [*, errW_none, errW_some] <;> rfl), by repeat (with_reducible first | exact HB.out | apply below_alloc | apply pw_below_drewN | apply below_drew1)⟩
def stylusref19_Line.l0 : Nat → List (S43) → Int → Int → Int → Int → Int → Option (Int × Int × Int)
 | 0, _, _, _, _, _, _ => none
 | k + 1, x0, x2, x9, x10, x11, x12 => if x12 < x2 then (if 0 ≤ x12 then (if x12 < (x0.length : Int) then (if ((rd_T43 x0 x12).f0) = 3 then (if ((rd_T43 x0 x12).f0) = 2 then (stylusref19_Line.l0 k x0 x2 x9 (wrap64 (x10 + ((rd_T43 x0 x12).f2))) (wrap64 (x11 + ((rd_T43 x0 x12).f3))) (wrap64 (x12 + 1))) else (stylusref19_Line.l0 k x0 x2 x9 x10 x11 (wrap64 (x12 + 1)))) else (if ((rd_T43 x0 x12).f0) = 2 then (stylusref19_Line.l0 k x0 x2 (wrap64 (x9 + ((rd_T43 x0 x12).f1))) (wrap64 (x10 + ((rd_T43 x0 x12).f2))) (wrap64 (x11 + ((rd_T43 x0 x12).f3))) (wrap64 (x12 + 1))) else (stylusref19_Line.l0 k x0 x2 (wrap64 (x9 + ((rd_T43 x0 x12).f1))) x10 x11 (wrap64 (x12 + 1))))) else (none)) else (none)) else ((stylusref19_Hyphen.f x0 x2).bind fun t191 => (if t191 = true then (if 0 ≤ x2 then (if x2 < (x0.length : Int) then (some (wrap64 (x9 + ((rd_T43 x0 x2).f1)), x10, x11)) else (none)) else (none)) else (some (x9, x10, x11))))
def stylusref19_Line.f (k : Nat) (l0 : List (S43)) (a1 : Int) (a2 : Int) : Option (Int × Int × Int) := stylusref19_Line.l0 k l0 a2 0 0 0 (wrap64 (a1 + 1))
theorem stylusref19_Line.mono_l : ∀ k, (∀ y0 y1 y2 y3 y4 y5, LeO (stylusref19_Line.l0 k y0 y1 y2 y3 y4 y5) (stylusref19_Line.l0 (k + 1) y0 y1 y2 y3 y4 y5))
 | 0 => fun _ _ _ _ _ _ r h => by simp [stylusref19_Line.l0] at h
 | k + 1 => by
  have ih0 := stylusref19_Line.mono_l k
  ·intro y0 y1 y2 y3 y4 y5
   unfold stylusref19_Line.l0
   repeat' first
   | (with_reducible exact ih0 _ _ _ _ _ _)
   | (with_reducible exact LeO.refl _)
   | (with_reducible exact LeO.none _)
   | (with_reducible refine LeO.ite ?_ ?_)
   | (with_reducible refine LeO.bind ?_ (fun _ => ?_))
   | exact ih0 _ _ _ _ _ _
   | exact LeO.none _
   | refine LeO.ite ?_ ?_
   | refine LeO.bind ?_ (fun _ => ?_)
theorem stylusref19_Line.mono : ∀ a0 a1 a2 k, LeO (stylusref19_Line.f k a0 a1 a2) (stylusref19_Line.f (k + 1) a0 a1 a2) := by
 intro a0 a1 a2 k
 have ih0 := stylusref19_Line.mono_l k
 unfold stylusref19_Line.f
 repeat' first
   | (with_reducible exact ih0 _ _ _ _ _ _)
   | (with_reducible exact LeO.refl _)
   | (with_reducible exact LeO.none _)
   | (with_reducible refine LeO.ite ?_ ?_)
   | (with_reducible refine LeO.bind ?_ (fun _ => ?_))
   | exact ih0 _ _ _ _ _ _
   | exact LeO.none _
   | refine LeO.ite ?_ ?_
   | refine LeO.bind ?_ (fun _ => ?_)
set_option maxHeartbeats 8000000 in
set_option maxRecDepth 100000 in
theorem stylusref19_Line.calls (k : Nat) (A0 : Option Addr) (c0 : Nat) (l0 : List (S43)) (a1 : Int) (a2 : Int) (r1 : Int) (r2 : Int) (r3 : Int) (w : World) (hr0 : Kd.C k43 w A0 l0.length l0) (hc0 : l0.length ≤ c0) (h : stylusref19_Line.f k l0 a1 a2 = some (r1, r2, r3)) :
  Calls Try.prog 55 #[.slice A0 l0.length c0, .int .i64 a1, .int .i64 a2] w fun e w' => e = .returned (.tuple #[.int .i64 r1, .int .i64 r2, .int .i64 r3]) ∧ Drawn0 w w' := by
 have HR0 := Aside0.mk hr0
 have HC0 := Aside0.mk hc0
 clear hr0 hc0
 have H : (stylusref19_Line.l0 k l0 a2 0 0 0 (wrap64 (a1 + 1))) = some (r1, r2, r3) := h
 clear h
 have H' := Aside0.mk H
 clear H
 go_enter Try.func55, Try.ntmps55
 go_wp2
 go_loopg [9, 10, 11, 12] k (fun kq v9 v10 v11 v12 w' => ∃ (x9_1 : Int) (x10_1 : Int) (x11_1 : Int) (x12_1 : Int), v9 = .int .i64 x9_1 ∧ v10 = .int .i64 x10_1 ∧ v11 = .int .i64 x11_1 ∧ v12 = .int .i64 x12_1 ∧ Aside0 (stylusref19_Line.l0 kq l0 a2 x9_1 x10_1 x11_1 x12_1 = some (r1, r2, r3)) ∧ Aside0 (kq ≤ k) ∧ Drawn0 w w')
 case atStart => exact ⟨(0), (0), (0), (wrap64 (a1 + 1)), (by first | rfl | (simp; done) | (simp [*]; done)), (by first | rfl | (simp; done) | (simp [*]; done)), (by first | rfl | (simp; done) | (simp [*]; done)), (by first | rfl | (simp; done) | (simp [*]; done)), H', ⟨Nat.le_refl _⟩, by repeat (first | exact Drawn0.refl _ | apply Drawn0.step)⟩
 case round =>
  clear H'
  try clear p2
  obtain ⟨x9_1, x10_1, x11_1, x12_1, rfl, rfl, rfl, rfl, HA, HK1, ⟨m1, rfl⟩⟩ := hrel
  cases gk with
  | zero => exact absurd HA.out (by simp [stylusref19_Line.l0])
  | succ k1 =>
   have H := HA.out
   clear HA
   simp only [stylusref19_Line.l0] at H
   by_cases c4 : x12_1 < a2
   ·rw [if_pos c4] at H
    have c4b0 : decide (x12_1 < a2) = true := decide_eq_true c4
    clear c4
    by_cases c5 : 0 ≤ x12_1
    ·rw [if_pos c5] at H
     have c5b0 : decide (0 ≤ x12_1) = true := decide_eq_true c5
     clear c5
     by_cases c6 : x12_1 < (l0.length : Int)
     ·rw [if_pos c6] at H
      have c6b0 : decide (x12_1 < (l0.length : Int)) = true := decide_eq_true c6
      clear c6
      by_cases c7 : ((rd_T43 l0 x12_1).f0) = 3
      ·rw [if_pos c7] at H
       have c7b0 : (((rd_T43 l0 x12_1).f0) == 3) = true := beq_iff_eq.mpr c7
       have c7b1 : (((rd_T43 l0 x12_1).f0) != 3) = false := bne_eq_false_iff_eq.mpr c7
       clear c7
       by_cases c8 : ((rd_T43 l0 x12_1).f0) = 2
       ·rw [if_pos c8] at H
        have c8b0 : (((rd_T43 l0 x12_1).f0) == 2) = true := beq_iff_eq.mpr c8
        have c8b1 : (((rd_T43 l0 x12_1).f0) != 2) = false := bne_eq_false_iff_eq.mpr c8
        clear c8
        have H' := Aside0.mk H
        clear H
        have p193 : 0 ≤ (x12_1 : Int) := of_decide_eq_true (by first | (with_reducible assumption) | assumption)
        have q193 : x12_1 < (l0.length : Int) := of_decide_eq_true (by first | (with_reducible assumption) | assumption)
        obtain ⟨ad193, e193, hx193_0, hx193_1, hx193_2, hx193_3, hx193_4⟩ := at_T43 HR0.out x12_1 p193 q193
        cases e193
        replace p193 := eq_true p193
        replace q193 := eq_true q193
        have p194 : 0 ≤ (x12_1 : Int) := of_decide_eq_true (by first | (with_reducible assumption) | assumption)
        have q194 : x12_1 < (l0.length : Int) := of_decide_eq_true (by first | (with_reducible assumption) | assumption)
        obtain ⟨ad194, e194, hx194_0, hx194_1, hx194_2, hx194_3, hx194_4⟩ := at_T43 HR0.out x12_1 p194 q194
        obtain rfl : ad193 = ad194 := (by injection e194)
        replace p194 := eq_true p194
        replace q194 := eq_true q194
        have p195 : 0 ≤ (x12_1 : Int) := of_decide_eq_true (by first | (with_reducible assumption) | assumption)
        have q195 : x12_1 < (l0.length : Int) := of_decide_eq_true (by first | (with_reducible assumption) | assumption)
        obtain ⟨ad195, e195, hx195_0, hx195_1, hx195_2, hx195_3, hx195_4⟩ := at_T43 HR0.out x12_1 p195 q195
        obtain rfl : ad193 = ad195 := (by injection e195)
        replace p195 := eq_true p195
        replace q195 := eq_true q195
        have p196 : 0 ≤ (x12_1 : Int) := of_decide_eq_true (by first | (with_reducible assumption) | assumption)
        have q196 : x12_1 < (l0.length : Int) := of_decide_eq_true (by first | (with_reducible assumption) | assumption)
        obtain ⟨ad196, e196, hx196_0, hx196_1, hx196_2, hx196_3, hx196_4⟩ := at_T43 HR0.out x12_1 p196 q196
        obtain rfl : ad193 = ad196 := (by injection e196)
        replace p196 := eq_true p196
        replace q196 := eq_true q196
        go_wp2
        go_roundg k1
        case measure => have := HK1.out; omega
        case rel => exact ⟨(x9_1), (wrap64 (x10_1 + ((rd_T43 l0 x12_1).f2))), (wrap64 (x11_1 + ((rd_T43 l0 x12_1).f3))), (wrap64 (x12_1 + 1)), (by first | rfl | (simp; done) | (simp [*]; done)), (by first | rfl | (simp; done) | (simp [*]; done)), (by first | rfl | (simp; done) | (simp [*]; done)), (by first | rfl | (simp; done) | (simp [*]; done)), H', ⟨by have := HK1.out; omega⟩, by repeat (first | exact Drawn0.refl _ | apply Drawn0.step)⟩
       ·rw [if_neg c8] at H
        have c8b0 : (((rd_T43 l0 x12_1).f0) == 2) = false := beq_eq_false_iff_ne.mpr c8
        have c8b1 : (((rd_T43 l0 x12_1).f0) != 2) = true := bne_iff_ne.mpr c8
        have H' := Aside0.mk H
        clear H
        have p193 : 0 ≤ (x12_1 : Int) := of_decide_eq_true (by first | (with_reducible assumption) | assumption)
        have q193 : x12_1 < (l0.length : Int) := of_decide_eq_true (by first | (with_reducible assumption) | assumption)
        obtain ⟨ad193, e193, hx193_0, hx193_1, hx193_2, hx193_3, hx193_4⟩ := at_T43 HR0.out x12_1 p193 q193
        cases e193
        replace p193 := eq_true p193
        replace q193 := eq_true q193
        have p194 : 0 ≤ (x12_1 : Int) := of_decide_eq_true (by first | (with_reducible assumption) | assumption)
        have q194 : x12_1 < (l0.length : Int) := of_decide_eq_true (by first | (with_reducible assumption) | assumption)
        obtain ⟨ad194, e194, hx194_0, hx194_1, hx194_2, hx194_3, hx194_4⟩ := at_T43 HR0.out x12_1 p194 q194
        obtain rfl : ad193 = ad194 := (by injection e194)
        replace p194 := eq_true p194
        replace q194 := eq_true q194
        go_wp2
        go_roundg k1
        case measure => have := HK1.out; omega
        case rel => exact ⟨(x9_1), (x10_1), (x11_1), (wrap64 (x12_1 + 1)), (by first | rfl | (simp; done) | (simp [*]; done)), (by first | rfl | (simp; done) | (simp [*]; done)), (by first | rfl | (simp; done) | (simp [*]; done)), (by first | rfl | (simp; done) | (simp [*]; done)), H', ⟨by have := HK1.out; omega⟩, by repeat (first | exact Drawn0.refl _ | apply Drawn0.step)⟩
      ·rw [if_neg c7] at H
       have c7b0 : (((rd_T43 l0 x12_1).f0) == 3) = false := beq_eq_false_iff_ne.mpr c7
       have c7b1 : (((rd_T43 l0 x12_1).f0) != 3) = true := bne_iff_ne.mpr c7
       by_cases c9 : ((rd_T43 l0 x12_1).f0) = 2
       ·rw [if_pos c9] at H
        have c9b0 : (((rd_T43 l0 x12_1).f0) == 2) = true := beq_iff_eq.mpr c9
        have c9b1 : (((rd_T43 l0 x12_1).f0) != 2) = false := bne_eq_false_iff_eq.mpr c9
        clear c9
        have H' := Aside0.mk H
        clear H
        have p193 : 0 ≤ (x12_1 : Int) := of_decide_eq_true (by first | (with_reducible assumption) | assumption)
        have q193 : x12_1 < (l0.length : Int) := of_decide_eq_true (by first | (with_reducible assumption) | assumption)
        obtain ⟨ad193, e193, hx193_0, hx193_1, hx193_2, hx193_3, hx193_4⟩ := at_T43 HR0.out x12_1 p193 q193
        cases e193
        replace p193 := eq_true p193
        replace q193 := eq_true q193
        have p197 : 0 ≤ (x12_1 : Int) := of_decide_eq_true (by first | (with_reducible assumption) | assumption)
        have q197 : x12_1 < (l0.length : Int) := of_decide_eq_true (by first | (with_reducible assumption) | assumption)
        obtain ⟨ad197, e197, hx197_0, hx197_1, hx197_2, hx197_3, hx197_4⟩ := at_T43 HR0.out x12_1 p197 q197
        obtain rfl : ad193 = ad197 := (by injection e197)
        replace p197 := eq_true p197
        replace q197 := eq_true q197
        have p198 : 0 ≤ (x12_1 : Int) := of_decide_eq_true (by first | (with_reducible assumption) | assumption)
        have q198 : x12_1 < (l0.length : Int) := of_decide_eq_true (by first | (with_reducible assumption) | assumption)
        obtain ⟨ad198, e198, hx198_0, hx198_1, hx198_2, hx198_3, hx198_4⟩ := at_T43 HR0.out x12_1 p198 q198
        obtain rfl : ad193 = ad198 := (by injection e198)
        replace p198 := eq_true p198
        replace q198 := eq_true q198
        have p199 : 0 ≤ (x12_1 : Int) := of_decide_eq_true (by first | (with_reducible assumption) | assumption)
        have q199 : x12_1 < (l0.length : Int) := of_decide_eq_true (by first | (with_reducible assumption) | assumption)
        obtain ⟨ad199, e199, hx199_0, hx199_1, hx199_2, hx199_3, hx199_4⟩ := at_T43 HR0.out x12_1 p199 q199
        obtain rfl : ad193 = ad199 := (by injection e199)
        replace p199 := eq_true p199
        replace q199 := eq_true q199
        have p200 : 0 ≤ (x12_1 : Int) := of_decide_eq_true (by first | (with_reducible assumption) | assumption)
        have q200 : x12_1 < (l0.length : Int) := of_decide_eq_true (by first | (with_reducible assumption) | assumption)
        obtain ⟨ad200, e200, hx200_0, hx200_1, hx200_2, hx200_3, hx200_4⟩ := at_T43 HR0.out x12_1 p200 q200
        obtain rfl : ad193 = ad200 := (by injection e200)
        replace p200 := eq_true p200
        replace q200 := eq_true q200
        go_wp2
        go_roundg k1
        case measure => have := HK1.out; omega
        case rel => exact ⟨(wrap64 (x9_1 + ((rd_T43 l0 x12_1).f1))), (wrap64 (x10_1 + ((rd_T43 l0 x12_1).f2))), (wrap64 (x11_1 + ((rd_T43 l0 x12_1).f3))), (wrap64 (x12_1 + 1)), (by first | rfl | (simp; done) | (simp [*]; done)), (by first | rfl | (simp; done) | (simp [*]; done)), (by first | rfl | (simp; done) | (simp [*]; done)), (by first | rfl | (simp; done) | (simp [*]; done)), H', ⟨by have := HK1.out; omega⟩, by repeat (first | exact Drawn0.refl _ | apply Drawn0.step)⟩
       ·rw [if_neg c9] at H
        have c9b0 : (((rd_T43 l0 x12_1).f0) == 2) = false := beq_eq_false_iff_ne.mpr c9
        have c9b1 : (((rd_T43 l0 x12_1).f0) != 2) = true := bne_iff_ne.mpr c9
        have H' := Aside0.mk H
        clear H
        have p193 : 0 ≤ (x12_1 : Int) := of_decide_eq_true (by first | (with_reducible assumption) | assumption)
        have q193 : x12_1 < (l0.length : Int) := of_decide_eq_true (by first | (with_reducible assumption) | assumption)
        obtain ⟨ad193, e193, hx193_0, hx193_1, hx193_2, hx193_3, hx193_4⟩ := at_T43 HR0.out x12_1 p193 q193
        cases e193
        replace p193 := eq_true p193
        replace q193 := eq_true q193
        have p197 : 0 ≤ (x12_1 : Int) := of_decide_eq_true (by first | (with_reducible assumption) | assumption)
        have q197 : x12_1 < (l0.length : Int) := of_decide_eq_true (by first | (with_reducible assumption) | assumption)
        obtain ⟨ad197, e197, hx197_0, hx197_1, hx197_2, hx197_3, hx197_4⟩ := at_T43 HR0.out x12_1 p197 q197
        obtain rfl : ad193 = ad197 := (by injection e197)
        replace p197 := eq_true p197
        replace q197 := eq_true q197
        have p198 : 0 ≤ (x12_1 : Int) := of_decide_eq_true (by first | (with_reducible assumption) | assumption)
        have q198 : x12_1 < (l0.length : Int) := of_decide_eq_true (by first | (with_reducible assumption) | assumption)
        obtain ⟨ad198, e198, hx198_0, hx198_1, hx198_2, hx198_3, hx198_4⟩ := at_T43 HR0.out x12_1 p198 q198
        obtain rfl : ad193 = ad198 := (by injection e198)
        replace p198 := eq_true p198
        replace q198 := eq_true q198
        go_wp2
        go_roundg k1
        case measure => have := HK1.out; omega
        case rel => exact ⟨(wrap64 (x9_1 + ((rd_T43 l0 x12_1).f1))), (x10_1), (x11_1), (wrap64 (x12_1 + 1)), (by first | rfl | (simp; done) | (simp [*]; done)), (by first | rfl | (simp; done) | (simp [*]; done)), (by first | rfl | (simp; done) | (simp [*]; done)), (by first | rfl | (simp; done) | (simp [*]; done)), H', ⟨by have := HK1.out; omega⟩, by repeat (first | exact Drawn0.refl _ | apply Drawn0.step)⟩
     ·rw [if_neg c6] at H
      exact absurd H (by simp)
    ·rw [if_neg c5] at H
     exact absurd H (by simp)
   ·rw [if_neg c4] at H
    have c4b0 : decide (x12_1 < a2) = false := decide_eq_false c4
    clear c4
    replace H := Option.bind_eq_some_iff.mp H
    obtain ⟨t191, A100, H⟩ := H
    replace H : (if t191 = true then (if 0 ≤ a2 then (if a2 < (l0.length : Int) then (some (wrap64 (x9_1 + ((rd_T43 l0 a2).f1)), x10_1, x11_1)) else (none)) else (none)) else (some (x9_1, x10_1, x11_1))) = some (r1, r2, r3) := H
    have A10 := Aside0.mk A100
    clear A100
    by_cases c11 : t191 = true
    ·subst c11
     have H1 : (if 0 ≤ a2 then (if a2 < (l0.length : Int) then (some (wrap64 (x9_1 + ((rd_T43 l0 a2).f1)), x10_1, x11_1)) else (none)) else (none)) = some (r1, r2, r3) := by rw [if_pos rfl] at H; exact H
     clear H
     have H := H1
     clear H1
     by_cases c12 : 0 ≤ a2
     ·rw [if_pos c12] at H
      have c12b0 : decide (0 ≤ a2) = true := decide_eq_true c12
      clear c12
      by_cases c13 : a2 < (l0.length : Int)
      ·rw [if_pos c13] at H
       have c13b0 : decide (a2 < (l0.length : Int)) = true := decide_eq_true c13
       clear c13
       simp only [Option.some.injEq, Prod.mk.injEq] at H
       obtain ⟨rfl, rfl, rfl⟩ := H
       go_wp2_with (first | ((with_reducible refine gate_callee (f := 57) rfl ?_); refine goesL_ (some 55) rfl rfl Try.func57 (by kernel_rfl) rfl #[.slice A0 l0.length c0, .int .i64 a2] rfl (by (try simp only [List.map_toArray, List.map_cons, List.map_nil]); first | done | rfl | (simp only [List.length_drop, List.length_take]; rfl)) ?_; (with_reducible refine (stylusref19_Hyphen.calls _ _ l0 a2 true _ ?side1 ?side2 A10.out).mono ?_); (case side1 => repeat (first | exact HR0.out | (with_reducible refine Kd.C_alloc ?_ _) | (with_reducible refine Kd.C_drewN ?_ _) | (with_reducible refine Kd.C_drew ?_))); (case side2 => exact HC0.out); rintro e w' ⟨rfl, ⟨nd, rfl⟩⟩; refine ⟨_, rfl, ?_⟩; have p192 : 0 ≤ (a2 : Int) := of_decide_eq_true (by first | (with_reducible assumption) | assumption); have q192 : a2 < (l0.length : Int) := of_decide_eq_true (by first | (with_reducible assumption) | assumption); obtain ⟨ad192, e192, hx192_0, hx192_1, hx192_2, hx192_3, hx192_4⟩ := at_T43 HR0.out a2 p192 q192; cases e192; replace p192 := eq_true p192; replace q192 := eq_true q192))
       go_ret3
       exact ⟨by first | rfl | (simp; done) | (simp [*]; done), by repeat (first | exact Drawn0.refl _ | apply Drawn0.step)⟩
      ·rw [if_neg c13] at H
       exact absurd H (by simp)
     ·rw [if_neg c12] at H
      exact absurd H (by simp)
    ·replace c11 := Bool.eq_false_iff.mpr c11
     subst c11
     have H1 : (some (x9_1, x10_1, x11_1)) = some (r1, r2, r3) := by rw [if_neg (show ¬ (false = true) by decide)] at H; exact H
     clear H
     have H := H1
     clear H1
     simp only [Option.some.injEq, Prod.mk.injEq] at H
     obtain ⟨rfl, rfl, rfl⟩ := H
     go_wp2_with (first | ((with_reducible refine gate_callee (f := 57) rfl ?_); refine goesL_ (some 55) rfl rfl Try.func57 (by kernel_rfl) rfl #[.slice A0 l0.length c0, .int .i64 a2] rfl (by (try simp only [List.map_toArray, List.map_cons, List.map_nil]); first | done | rfl | (simp only [List.length_drop, List.length_take]; rfl)) ?_; (with_reducible refine (stylusref19_Hyphen.calls _ _ l0 a2 false _ ?side1 ?side2 A10.out).mono ?_); (case side1 => repeat (first | exact HR0.out | (with_reducible refine Kd.C_alloc ?_ _) | (with_reducible refine Kd.C_drewN ?_ _) | (with_reducible refine Kd.C_drew ?_))); (case side2 => exact HC0.out); rintro e w' ⟨rfl, ⟨nd, rfl⟩⟩; refine ⟨_, rfl, ?_⟩))
     go_ret3
     exact ⟨by first | rfl | (simp; done) | (simp [*]; done), by repeat (first | exact Drawn0.refl _ | apply Drawn0.step)⟩
def stylusref19_quotient.f (a0 : Int) (a1 : Int) : Option (Int) := if a1 = 0 then (some 1024) else (some (mn (wrap64 (Int.tdiv (wrap64 (a0 * 128)) a1)) 1024))
def stylusref19_Rate.j0 : Nat → Int → Int → Int → Int → Bool → Option (Int)
 | 0, _, _, _, _, _ => none
 | k + 1, x1, x9, x10, x11, x33 => if x33 = true then (some 0) else (if x9 < x1 then ((stylusref19_quotient.f (wrap64 (x1 - x9)) x10).bind fun t204 => (some t204)) else ((stylusref19_quotient.f (wrap64 (x9 - x1)) x11).bind fun t205 => (some t205)))
def stylusref19_Rate.f (k : Nat) (l0 : List (S43)) (a1 : Int) (a2 : Int) (a3 : Int) : Option (Int) := (stylusref19_Line.f k l0 a2 a3).bind fun bt201 => (if bt201.1 = a1 then (stylusref19_Rate.j0 k a1 bt201.1 bt201.2.1 bt201.2.2 true) else (if bt201.1 < a1 then (stylusref19_Rate.j0 k a1 bt201.1 bt201.2.1 bt201.2.2 (a3 == (l0.length : Int))) else (stylusref19_Rate.j0 k a1 bt201.1 bt201.2.1 bt201.2.2 false)))
theorem stylusref19_Rate.mono_l : ∀ k, (∀ y0 y1 y2 y3 y4, LeO (stylusref19_Rate.j0 k y0 y1 y2 y3 y4) (stylusref19_Rate.j0 (k + 1) y0 y1 y2 y3 y4))
 | 0 => fun _ _ _ _ _ r h => by simp [stylusref19_Rate.j0] at h
 | k + 1 => by
  have ih0 := stylusref19_Rate.mono_l k
  ·intro y0 y1 y2 y3 y4
   unfold stylusref19_Rate.j0
   repeat' first
   | (with_reducible exact ih0 _ _ _ _ _)
   | (with_reducible exact stylusref19_Line.mono _ _ _ _)
   | (with_reducible exact LeO.refl _)
   | (with_reducible exact LeO.none _)
   | (with_reducible refine LeO.ite ?_ ?_)
   | (with_reducible refine LeO.bind ?_ (fun _ => ?_))
   | exact ih0 _ _ _ _ _
   | exact stylusref19_Line.mono _ _ _ _
   | exact LeO.none _
   | refine LeO.ite ?_ ?_
   | refine LeO.bind ?_ (fun _ => ?_)
theorem stylusref19_Rate.mono : ∀ a0 a1 a2 a3 k, LeO (stylusref19_Rate.f k a0 a1 a2 a3) (stylusref19_Rate.f (k + 1) a0 a1 a2 a3) := by
 intro a0 a1 a2 a3 k
 have ih0 := stylusref19_Rate.mono_l k
 unfold stylusref19_Rate.f
 repeat' first
   | (with_reducible exact ih0 _ _ _ _ _)
   | (with_reducible exact stylusref19_Line.mono _ _ _ _)
   | (with_reducible exact LeO.refl _)
   | (with_reducible exact LeO.none _)
   | (with_reducible refine LeO.ite ?_ ?_)
   | (with_reducible refine LeO.bind ?_ (fun _ => ?_))
   | exact ih0 _ _ _ _ _
   | exact stylusref19_Line.mono _ _ _ _
   | exact LeO.none _
   | refine LeO.ite ?_ ?_
   | refine LeO.bind ?_ (fun _ => ?_)
def stylusref19_Cost.f (k : Nat) (l0 : List (S43)) (a1 : Int) (a2 : Int) (a3 : Int) : Option (Int) := (stylusref19_Rate.f k l0 a1 a2 a3).bind fun t206 => ((stylusref19_Hyphen.f l0 a3).bind fun t207 => (if t207 = true then ((stylusref19_Line.f k l0 a2 a3).bind fun bt208 => (if (wrap64 (bt208.1 - bt208.2.2)) > a1 then (some (wrap64 ((wrap64 ((wrap64 ((wrap64 (10 + (mn (wrap64 (Int.tdiv (wrap64 ((wrap64 ((wrap64 (100 * t206)) * t206)) * t206)) 2097152)) 10000))) * (wrap64 (10 + (mn (wrap64 (Int.tdiv (wrap64 ((wrap64 ((wrap64 (100 * t206)) * t206)) * t206)) 2097152)) 10000))))) + 2500)) + 1000000000000))) else (some (wrap64 ((wrap64 ((wrap64 (10 + (mn (wrap64 (Int.tdiv (wrap64 ((wrap64 ((wrap64 (100 * t206)) * t206)) * t206)) 2097152)) 10000))) * (wrap64 (10 + (mn (wrap64 (Int.tdiv (wrap64 ((wrap64 ((wrap64 (100 * t206)) * t206)) * t206)) 2097152)) 10000))))) + 2500))))) else ((stylusref19_Line.f k l0 a2 a3).bind fun bt211 => (if (wrap64 (bt211.1 - bt211.2.2)) > a1 then (some (wrap64 ((wrap64 ((wrap64 (10 + (mn (wrap64 (Int.tdiv (wrap64 ((wrap64 ((wrap64 (100 * t206)) * t206)) * t206)) 2097152)) 10000))) * (wrap64 (10 + (mn (wrap64 (Int.tdiv (wrap64 ((wrap64 ((wrap64 (100 * t206)) * t206)) * t206)) 2097152)) 10000))))) + 1000000000000))) else (some (wrap64 ((wrap64 (10 + (mn (wrap64 (Int.tdiv (wrap64 ((wrap64 ((wrap64 (100 * t206)) * t206)) * t206)) 2097152)) 10000))) * (wrap64 (10 + (mn (wrap64 (Int.tdiv (wrap64 ((wrap64 ((wrap64 (100 * t206)) * t206)) * t206)) 2097152)) 10000))))))))))
theorem stylusref19_Cost.mono : ∀ a0 a1 a2 a3 k, LeO (stylusref19_Cost.f k a0 a1 a2 a3) (stylusref19_Cost.f (k + 1) a0 a1 a2 a3) := by
 intro a0 a1 a2 a3 k
 unfold stylusref19_Cost.f
 repeat' first
   | (with_reducible exact stylusref19_Line.mono _ _ _ _)
   | (with_reducible exact stylusref19_Rate.mono _ _ _ _ _)
   | (with_reducible exact LeO.refl _)
   | (with_reducible exact LeO.none _)
   | (with_reducible refine LeO.ite ?_ ?_)
   | (with_reducible refine LeO.bind ?_ (fun _ => ?_))
   | exact stylusref19_Line.mono _ _ _ _
   | exact stylusref19_Rate.mono _ _ _ _ _
   | exact LeO.none _
   | refine LeO.ite ?_ ?_
   | refine LeO.bind ?_ (fun _ => ?_)
def stylusref19_Total.l0 : Nat → List (S43) → Int → List Int → Int → Int → Int → Option (Int)
 | 0, _, _, _, _, _, _ => none
 | k + 1, x0, x1, x2, x7, x8, x9 => if x9 < (x2.length : Int) then (if 0 ≤ x9 then ((stylusref19_Cost.f k x0 x1 x8 (rd x2 x9)).bind fun t215 => (stylusref19_Total.l0 k x0 x1 x2 (wrap64 (x7 + t215)) (rd x2 x9) (wrap64 (x9 + 1)))) else (none)) else (some x7)
def stylusref19_Total.f (k : Nat) (l0 : List (S43)) (a1 : Int) (l2 : List Int) : Option (Int) := stylusref19_Total.l0 k l0 a1 l2 0 (-1) 0
theorem stylusref19_Total.mono_l : ∀ k, (∀ y0 y1 y2 y3 y4 y5, LeO (stylusref19_Total.l0 k y0 y1 y2 y3 y4 y5) (stylusref19_Total.l0 (k + 1) y0 y1 y2 y3 y4 y5))
 | 0 => fun _ _ _ _ _ _ r h => by simp [stylusref19_Total.l0] at h
 | k + 1 => by
  have ih0 := stylusref19_Total.mono_l k
  ·intro y0 y1 y2 y3 y4 y5
   unfold stylusref19_Total.l0
   repeat' first
   | (with_reducible exact ih0 _ _ _ _ _ _)
   | (with_reducible exact stylusref19_Cost.mono _ _ _ _ _)
   | (with_reducible exact LeO.refl _)
   | (with_reducible exact LeO.none _)
   | (with_reducible refine LeO.ite ?_ ?_)
   | (with_reducible refine LeO.bind ?_ (fun _ => ?_))
   | exact ih0 _ _ _ _ _ _
   | exact stylusref19_Cost.mono _ _ _ _ _
   | exact LeO.none _
   | refine LeO.ite ?_ ?_
   | refine LeO.bind ?_ (fun _ => ?_)
theorem stylusref19_Total.mono : ∀ a0 a1 a2 k, LeO (stylusref19_Total.f k a0 a1 a2) (stylusref19_Total.f (k + 1) a0 a1 a2) := by
 intro a0 a1 a2 k
 have ih0 := stylusref19_Total.mono_l k
 unfold stylusref19_Total.f
 repeat' first
   | (with_reducible exact ih0 _ _ _ _ _ _)
   | (with_reducible exact stylusref19_Cost.mono _ _ _ _ _)
   | (with_reducible exact LeO.refl _)
   | (with_reducible exact LeO.none _)
   | (with_reducible refine LeO.ite ?_ ?_)
   | (with_reducible refine LeO.bind ?_ (fun _ => ?_))
   | exact ih0 _ _ _ _ _ _
   | exact stylusref19_Cost.mono _ _ _ _ _
   | exact LeO.none _
   | refine LeO.ite ?_ ?_
   | refine LeO.bind ?_ (fun _ => ?_)
def stylusref19_Ratio.j0 : Nat → List (S43) → Int → Int → Int → Bool → Option (Int × Int × Int)
 | 0, _, _, _, _, _ => none
 | k + 1, x0, x1, x2, x3, x44 => if x44 = true then (some (0, 0, 1)) else ((stylusref19_Line.f k x0 x2 x3).bind fun bt266 => ((stylusref19_Rate.f k x0 x1 x2 x3).bind fun t269 => (some (bt266.1, t269, 0))))
def stylusref19_Ratio.f (k : Nat) (l0 : List (S43)) (a1 : Int) (a2 : Int) (a3 : Int) : Option (Int × Int × Int) := (stylusref19_Check.f k l0 a1).bind fun t262 => (if t262 = 0 then (if a2 = (-1) then ((stylusref19_Place.f l0 a3).bind fun t263 => (if t263 = true then (stylusref19_Ratio.j0 k l0 a1 a2 a3 (decide (a3 ≤ a2))) else (stylusref19_Ratio.j0 k l0 a1 a2 a3 true))) else (if a2 = (l0.length : Int) then (stylusref19_Ratio.j0 k l0 a1 a2 a3 true) else ((stylusref19_Place.f l0 a2).bind fun t264 => (if t264 = true then ((stylusref19_Place.f l0 a3).bind fun t265 => (if t265 = true then (stylusref19_Ratio.j0 k l0 a1 a2 a3 (decide (a3 ≤ a2))) else (stylusref19_Ratio.j0 k l0 a1 a2 a3 true))) else (stylusref19_Ratio.j0 k l0 a1 a2 a3 true))))) else (stylusref19_Ratio.j0 k l0 a1 a2 a3 true))
theorem stylusref19_Ratio.mono_l : ∀ k, (∀ y0 y1 y2 y3 y4, LeO (stylusref19_Ratio.j0 k y0 y1 y2 y3 y4) (stylusref19_Ratio.j0 (k + 1) y0 y1 y2 y3 y4))
 | 0 => fun _ _ _ _ _ r h => by simp [stylusref19_Ratio.j0] at h
 | k + 1 => by
  have ih0 := stylusref19_Ratio.mono_l k
  ·intro y0 y1 y2 y3 y4
   unfold stylusref19_Ratio.j0
   repeat' first
   | (with_reducible exact ih0 _ _ _ _ _)
   | (with_reducible exact stylusref19_Check.mono _ _ _)
   | (with_reducible exact stylusref19_Line.mono _ _ _ _)
   | (with_reducible exact stylusref19_Rate.mono _ _ _ _ _)
   | (with_reducible exact LeO.refl _)
   | (with_reducible exact LeO.none _)
   | (with_reducible refine LeO.ite ?_ ?_)
   | (with_reducible refine LeO.bind ?_ (fun _ => ?_))
   | exact ih0 _ _ _ _ _
   | exact stylusref19_Check.mono _ _ _
   | exact stylusref19_Line.mono _ _ _ _
   | exact stylusref19_Rate.mono _ _ _ _ _
   | exact LeO.none _
   | refine LeO.ite ?_ ?_
   | refine LeO.bind ?_ (fun _ => ?_)
theorem stylusref19_Ratio.mono : ∀ a0 a1 a2 a3 k, LeO (stylusref19_Ratio.f k a0 a1 a2 a3) (stylusref19_Ratio.f (k + 1) a0 a1 a2 a3) := by
 intro a0 a1 a2 a3 k
 have ih0 := stylusref19_Ratio.mono_l k
 unfold stylusref19_Ratio.f
 repeat' first
   | (with_reducible exact ih0 _ _ _ _ _)
   | (with_reducible exact stylusref19_Check.mono _ _ _)
   | (with_reducible exact stylusref19_Line.mono _ _ _ _)
   | (with_reducible exact stylusref19_Rate.mono _ _ _ _ _)
   | (with_reducible exact LeO.refl _)
   | (with_reducible exact LeO.none _)
   | (with_reducible refine LeO.ite ?_ ?_)
   | (with_reducible refine LeO.bind ?_ (fun _ => ?_))
   | exact ih0 _ _ _ _ _
   | exact stylusref19_Check.mono _ _ _
   | exact stylusref19_Line.mono _ _ _ _
   | exact stylusref19_Rate.mono _ _ _ _ _
   | exact LeO.none _
   | refine LeO.ite ?_ ?_
   | refine LeO.bind ?_ (fun _ => ?_)
end Go.Proofs.Ytbddfnmhhmkfkaa.Pr
