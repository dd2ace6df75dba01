/- Texts of this seat, one behind the other. -/
import Derived.Test.YtbddfnmhhmkfkaaXLinesExact3
import Derived.Test.YtbddfnmhhmkfkaaXLinesExact4
namespace Go.Proofs.Ytbddfnmhhmkfkaa.Pr
set_option linter.unusedVariables false
set_option linter.unusedSimpArgs false
open Go.RowKit Go.Proofs.YtbddfnmhhmkfkaaW.PrintWords Go.Proofs.YtbddfnmhhmkfkaaW.PrintLast Go.Proofs.YtbddfnmhhmkfkaaW.PrintMore
attribute [local go_sem] Oper.semAt_some
set_option maxRecDepth 100000 in
set_option maxHeartbeats 8000000 in
theorem linesExact_calls (A0 : Option Addr) (c0 : Nat) (toks : List S101) (A1 : Option Addr) (c1 : Nat) (l : List S43) (wd : Int) (A3 : Option Addr) (c3 : Nat) (bs : List Int) (w : World)
  (hr0 : Kd.C k101 w A0 toks.length toks) (hc0 : toks.length ≤ c0) (hr1 : Kd.C k43 w A1 l.length l) (hc1 : l.length ≤ c1) (hr3 : Kd.C (Kd.int .i64) w A3 bs.length bs) (hc3 : bs.length ≤ c3) :
  Calls Try.prog 8 #[.slice A0 toks.length c0, .slice A1 l.length c1, .int .i64 wd, .slice A3 bs.length c3] w fun e w' => e = .returned (.bool true) ∧ Below w.heap.size w w' := by
 have HT := Lib.hid hr0
 have HA := Lib.hid hr1
 have HBk := Lib.hid hr3
 clear hr0 hr1 hr3
 have HB0 := Lib.hid (Below.refl w.heap.size w)
 obtain ⟨n, hn⟩ : ∃ n, l.length = n := ⟨_, rfl⟩
 obtain ⟨m, hm⟩ : ∃ n, bs.length = n := ⟨_, rfl⟩
 obtain ⟨nt, hnt⟩ : ∃ n, toks.length = n := ⟨_, rfl⟩
 have HN := Lib.hid hn
 have HM := Lib.hid hm
 have HNT := Lib.hid hnt
 rw [hn] at hc1 ⊢
 rw [hm] at hc3 ⊢
 rw [hnt] at hc0 ⊢
 clear hn hm hnt
 have haw := fun W => s20_awake.calls 60 true W awake20
 have HAW := Lib.hid haw
 clear haw
 by_cases hbig : 120 < n
 ·have h1 : (120 : Int) < (n : Int) := by omega
  go_enter Try.func8, Try.ntmps8
  go_wp2_with fail
  refine (HAW.out _).mono ?_
  rintro _ w1 ⟨rfl, hb⟩
  go_wp2
  go_ret
  exact ⟨rfl, hb⟩
 by_cases hbig2 : 120 < m
 ·have h1 : ¬ (120 : Int) < (n : Int) := by omega
  have h2 : (120 : Int) < (m : Int) := by omega
  go_enter Try.func8, Try.ntmps8
  go_wp2_with fail
  refine (HAW.out _).mono ?_
  rintro _ w1 ⟨rfl, hb⟩
  go_wp2
  go_ret
  exact ⟨rfl, hb⟩
 have h1 : ¬ (120 : Int) < (n : Int) := by omega
 have h2 : ¬ (120 : Int) < (m : Int) := by omega
 have hOf := lines_Of_f toks l wd bs (by have := HN.out; omega) (by have := HM.out; omega)
 have hDem : best_Demerits.f l wd bs = some (demeritsP l wd bs) := if_pos ⟨by have := HN.out; omega, by have := HM.out; omega⟩
 have bad : ∀ r2 : Int, r2 ≠ 0 → lines_Of.f toks l wd bs = some ([], r2) → Calls Try.prog 8 #[.slice A0 nt c0, .slice A1 n c1, .int .i64 wd, .slice A3 m c3] w fun e w' => e = .returned (.bool true) ∧ Below w.heap.size w w' := by
  intro r2 hr2 hof
  have hcall := lines_Of.calls A0 c0 toks A1 c1 l wd A3 c3 bs [] r2 w HT.out (by rw [HNT.out]; exact hc0) HA.out (by rw [HN.out]; exact hc1) HBk.out (by rw [HM.out]; exact hc3) hof
  rw [HN.out, HM.out, HNT.out] at hcall
  have HC := Lib.hid hcall
  have hr2b : (r2 == 0) = false := beq_eq_false_iff_ne.2 hr2
  clear hcall hof hOf hDem hr2
  go_enter Try.func8, Try.ntmps8
  go_wp2_with fail
  refine HC.out.mono ?_
  rintro _ w1 ⟨v, rfl, hS, hb⟩
  obtain ⟨Av, cv, rfl⟩ := Kd.S_slice hS
  have HB1 := Lib.hid hb
  clear hS hb
  go_wp2_with fail
  refine (HAW.out _).mono ?_
  rintro _ w2 ⟨rfl, hb⟩
  have HB2 := Lib.hid (HB1.out.trans (hb.mono HB1.out.size))
  clear hb
  go_wp2
  go_ret
  exact ⟨rfl, HB2.out⟩
 by_cases hck : checkP l wd = 0 ∧ legalL l bs = true
 case neg =>
  rw [if_neg hck] at hOf
  exact bad 1 (by decide) hOf
 rw [if_pos hck] at hOf
 by_cases hodd : l.any (oddT toks) = true
 ·rw [if_pos hodd] at hOf
  exact bad 1 (by decide) hOf
 rw [if_neg hodd] at hOf
 clear bad hodd
 obtain ⟨hck, hleg⟩ := hck
 have ok := check_ok hck
 unfold demeritsP at hDem
 rw [if_pos ⟨hck, hleg⟩] at hDem
 unfold legalL at hleg
 rw [Bool.and_eq_true] at hleg
 have hlegB := hleg.2
 have hbr := ((legalB_iff l bs (-1)).1 hlegB).1
 obtain ⟨hrl, _⟩ := linesC_mem toks wd bs (-1) hbr
 have hcall := lines_Of.calls A0 c0 toks A1 c1 l wd A3 c3 bs _ 0 w HT.out (by rw [HNT.out]; exact hc0) HA.out (by rw [HN.out]; exact hc1) HBk.out (by rw [HM.out]; exact hc3) hOf
 rw [HN.out, HM.out, HNT.out] at hcall
 have hdc := fun W hW => best_Demerits.calls A1 c1 l wd A3 c3 bs _ 0 W (Kd.C_below HA.out hW) (by rw [HN.out]; exact hc1) (Kd.C_below HBk.out hW) (by rw [HM.out]; exact hc3) hDem
 rw [HN.out, HM.out] at hdc
 obtain ⟨ks, hks⟩ := (steady_ev l (by have := HN.out; omega)).rounds
 have hsc := fun W hW => s20_steady.calls ks A1 c1 l _ W (Kd.C_below HA.out hW) (by rw [HN.out]; exact hc1) hks
 rw [HN.out] at hsc
 obtain ⟨R, hR⟩ : ∃ R, linesC toks l wd (-1) bs = R := ⟨_, rfl⟩
 rw [hR] at hcall hrl
 rw [HM.out] at hrl
 have HR := Lib.hid hR
 have HRL := Lib.hid hrl
 have HCALL := Lib.hid hcall
 have HDC := Lib.hid hdc
 have HSC := Lib.hid hsc
 have HOK := Lib.hid ok
 have HLEG := Lib.hid hlegB
 clear hR hrl hcall hdc hsc ok hlegB hbr hleg hck hOf hDem hks
 obtain ⟨calm, hcalm⟩ : ∃ b, steadyP l = b := ⟨_, rfl⟩
 have HCM := Lib.hid hcalm
 clear hcalm
 go_enter Try.func8, Try.ntmps8
 go_wp2_with fail
 refine HCALL.out.mono ?_
 rintro _ w1 ⟨v, rfl, hS, hb⟩
 obtain ⟨Av, cv, rfl⟩ := Kd.S_slice hS
 have hCR := (Kd.S_reads' hS).2.2
 have HS := Lib.hid hCR
 have HB1 := Lib.hid hb
 clear hS hb hCR
 have hrl := HRL.out
 rw [hrl]
 clear hrl
 go_wp2_with fail
 refine (HDC.out _ HB1.out).mono ?_
 rintro _ w2 ⟨rfl, hb2⟩
 have HB2 := Lib.hid (HB1.out.trans (hb2.mono HB1.out.size))
 have HS2 := Lib.hid (Kd.C_below HS.out hb2)
 clear hb2
 go_wp2_with fail
 refine (HSC.out _ HB2.out).mono ?_
 rintro _ w3 ⟨rfl, hd⟩
 have hb3 : Below w2.heap.size w2 w3 := drawn_below hd _
 have HB3 := Lib.hid (HB2.out.trans (hb3.mono HB2.out.size))
 have HS3 := Lib.hid (Kd.C_below HS2.out hb3)
 rw [HCM.out]
 clear hd hb3
 go_wp2_with fail
 go_loopw [13, 15] (fun v13 v15 wr => ∃ (i a : Nat), v15 = .int .i64 i ∧ i ≤ m ∧ v13 = .int .i64 a ∧ a ≤ n + 1 ∧ Hid (legalB l ((a : Int) - 1) (bs.drop i) = true) ∧ Hid (linesC toks l wd ((a : Int) - 1) (bs.drop i) = R.drop i) ∧ Aside0 (Below w.heap.size w wr) ∧ Aside0 (Kd.C k55 wr Av R.length R)) (fun _ v _ => m - (intOf v).toNat)
 case atStart => exact ⟨0, 0, rfl, Nat.zero_le _, rfl, Nat.zero_le _, HLEG.out, HR.out, ⟨HB3.out⟩, ⟨HS3.out⟩⟩
 case round =>
  obtain ⟨i, a, rfl, him, rfl, han, HLG, HLR, HBr, HCr⟩ := hrel
  by_cases hlt : i < m
  case neg =>
   obtain rfl : i = m := by omega
   have hlt1 : ¬ (i : Int) < (i : Int) := by omega
   go_wp2_with fail
   refine (HAW.out _).mono ?_
   rintro _ w2 ⟨rfl, hb⟩
   have HB9 := Lib.hid (HBr.out.trans (hb.mono HBr.out.size))
   clear hb
   go_wp2
   go_ret
   exact ⟨rfl, HB9.out⟩
  have hlt1 : (i : Int) < (m : Int) := by omega
  obtain ⟨bI, rest, hdr⟩ : ∃ b rest, bs.drop i = b :: rest := by
   have : i < bs.length := by have := HM.out; omega
   exact ⟨_, _, List.drop_eq_getElem_cons this⟩
  have hlg := HLG.out
  rw [hdr] at hlg
  have hlr := HLR.out
  rw [hdr] at hlr
  obtain ⟨q1, q2, q3⟩ := rdAt hdr
  have hbr : Br l ((a : Int) - 1) (bI :: rest) := ((legalB_iff l (bI :: rest) _).1 hlg).1
  have hlast := ((legalB_iff l (bI :: rest) _).1 hlg).2
  obtain ⟨f1, f2, f3, f4⟩ := hbr
  obtain ⟨g1, g2⟩ := place_le f2
  obtain ⟨b, rfl⟩ : ∃ b : Nat, bI = b := ⟨bI.toNat, by omega⟩
  have hab : a ≤ b := by omega
  have hbn : b ≤ n := by have := HN.out; omega
  have hX := lineC_X toks HOK.out hab (by have := HN.out; omega)
  obtain ⟨r1, r2, r3⟩ := rdAt55 hlr.symm
  have hlastb : (i + 1 = m → b = n) ∧ (i + 1 < m → b < n) := by
   have hml := congrArg List.length hdr
   rw [List.length_drop, HM.out, List.length_cons] at hml
   have hN := HN.out
   cases rest with
   | nil =>
    simp at hlast hml
    exact ⟨fun _ => by omega, fun h => by omega⟩
   | cons b2 r =>
    obtain ⟨k1, k2, k3, k4⟩ := f4
    have := place_le k2
    simp at hml
    exact ⟨fun h => by omega, fun _ => by omega⟩
  have HLG1 : Hid (legalB l (((b + 1 : Nat) : Int) - 1) (bs.drop (i + 1)) = true) := by
   show legalB l (((b + 1 : Nat) : Int) - 1) (bs.drop (i + 1)) = true
   rw [q3, show ((b + 1 : Nat) : Int) - 1 = b by omega]
   exact (legalB_iff l rest b).2 ⟨f4, by
    cases rest with
    | nil => simpa using hlast
    | cons b2 r =>
     rw [List.getLast?_cons_cons] at hlast
     rw [List.getLast?_eq_some_getLast (by simp)] at hlast ⊢
     exact hlast⟩
  have HLR1 : Hid (linesC toks l wd (((b + 1 : Nat) : Int) - 1) (bs.drop (i + 1)) = R.drop (i + 1)) := by
   show linesC toks l wd (((b + 1 : Nat) : Int) - 1) (bs.drop (i + 1)) = R.drop (i + 1)
   rw [q3, show ((b + 1 : Nat) : Int) - 1 = b by omega, r3]
  have hRL := HRL.out
  obtain ⟨ad, As, cs, e1, x0, x1, x2, hcs, hCs⟩ := at_T55 HCr.out i (by omega) (by omega)
  cases e1
  rw [r2] at x0 x1 x2 hcs hCs
  have HQ2 := Lib.hid q2
  clear f1 f2 f3 f4 g1 g2 hlast hlg hlr hdr r1 r2 r3 q1 q2 q3
  obtain ⟨L, hL⟩ : ∃ L, lineC toks l wd ((a : Int) - 1) b = L := ⟨_, rfl⟩
  rw [hL] at hX x0 x1 x2 hcs hCs
  clear hL
  generalize decide (wd < lineN l ((a : Int) - 1) b - lineZ l ((a : Int) - 1) b) = ov at hX
  generalize (!((b : Int) == (l.length : Int)) && decide (lineN l ((a : Int) - 1) b + lineY l ((a : Int) - 1) b < wd)) = lo at hX
  generalize hd : hyphP l b = dh at hX
  have HD := Lib.hid hd
  have HX := Lib.hid hX
  clear hX hd
  simp only [Int.toNat_natCast] at x0 x1 x2
  obtain ⟨ns, hns⟩ : ∃ ns, L.f0.length = ns := ⟨_, rfl⟩
  rw [hns] at x0 hcs hCs
  have HNS := Lib.hid hns
  have HCS := Lib.hid hCs
  have hCR9 := Lib.hid HCr.out
  have HRL1 : (i : Int) < (m : Int) := hlt1
  clear hns hCs HCr hRL HLR HLG
  generalize hlw : L.f1 = lw at *
  have HLW := Lib.hid hlw
  clear hlw
  go_upto_region 16 with (fail)
  have hW1 : Below w.heap.size w (wr.alloc (.cells #[.slice As ns cs, .int .i64 lw, .int .i64 L.f2] 55)) := HBr.out.alloc HBr.out.size _
  have hbx := blk_new wr (.cells #[.slice As ns cs, .int .i64 lw, .int .i64 L.f2] 55)
  have hcs1 := Kd.C_alloc HCS.out (.cells #[.slice As ns cs, .int .i64 lw, .int .i64 L.f2] 55)
  have hcr1 := Kd.C_alloc hCR9.out (.cells #[.slice As ns cs, .int .i64 lw, .int .i64 L.f2] 55)
  generalize wr.alloc (.cells #[.slice As ns cs, .int .i64 lw, .int .i64 L.f2] 55) = W1 at *
  generalize wr.heap.size = gx at *
  have HW1 := Lib.hid hW1
  have HBX := Lib.hid hbx
  have HCS1 := Lib.hid hcs1
  have HCR1 := Lib.hid hcr1
  have y0 := blk_cell hbx 0
  have y1 := blk_cell hbx 1
  have y2 := blk_cell hbx 2
  simp only [List.getElem?_toArray, List.getElem?_cons_succ, List.getElem?_cons_zero] at y0 y1 y2
  clear hW1 hbx hcs1 hcr1 hCR9 HCS HBr x0 x1 x2
  obtain ⟨b3, hb3⟩ : ∃ b3, bits BinOp.and .i64 L.f2 3 = b3 := ⟨_, rfl⟩
  rw [hb3]
  have B3 := Lib.hid hb3
  clear hb3
  have HLB := Lib.hid hlastb
  clear hlastb
  go_cut [133] (fun v133 wx => v133 = .bool false ∧ wx = W1)
  case first =>
   as_aux_lemma =>
    have hx := HX.out
    have hbits := bitsO_and ov lo dh
    rw [← hx.bits] at hbits
    obtain ⟨k3, k1, k2, k4⟩ := hbits
    rw [B3.out] at k3
    have ho := hx.over
    have hf := hx.fits
    have hl := hx.loose
    have he := hx.exact_
    rw [HLW.out] at ho hf hl he
    rw [HN.out] at hl he
    clear hx
    obtain ⟨l1, l2⟩ := HLB.out
    clear k4 y0
    cases ov with
    | true =>
     obtain ⟨o1, rfl⟩ := ho rfl
     simp at k1 k2
     have z3 : (b3 == 0) = false := by rw [k3]; rfl
     clear ho hf hl he l1 l2 k3
     go_wp2
     go_meet
     exact ⟨by first | rfl | (simp; omega), rfl⟩
    | false =>
     have o1 := hf rfl
     cases lo with
     | true =>
      obtain ⟨o2, o3⟩ := hl rfl
      have o4 : i + 1 < m := by omega
      have o5 : ((i : Int) == (m : Int) - 1) = false := beq_eq_false_iff_ne.2 (by omega)
      simp at k1 k2
      have z3 : (b3 == 0) = false := by rw [k3]; rfl
      clear ho hf hl he l1 l2 o3 k3
      go_wp2
      go_meet
      exact ⟨by first | rfl | (simp; omega), rfl⟩
     | false =>
      by_cases hl4 : i + 1 < m
      ·obtain rfl := he rfl rfl (by omega)
       have o4 : (i : Int) < (m : Int) - 1 := by omega
       simp at k1 k2
       have z3 : (b3 == 0) = true := by rw [k3]; rfl
       clear ho hf hl he l1 l2 k3
       go_wp2
       go_meet
       exact ⟨by first | rfl | (simp; omega), rfl⟩
      ·have o4 : ¬ (i : Int) < (m : Int) - 1 := by omega
       simp at k1 k2
       have z3 : (b3 == 0) = true := by rw [k3]; rfl
       clear ho hf hl he l1 l2 k3
       go_wp2
       go_meet
       exact ⟨by first | rfl | (simp; omega), rfl⟩
  case rest =>
   obtain ⟨rfl, hw⟩ := hcut
   replace hw := hw.symm
   subst hw
   go_wp2_with fail
   go_loopw [13, 18] (fun v13 v18 ws => ∃ (k p : Nat), v18 = .int .i64 k ∧ k ≤ ns ∧ v13 = .int .i64 p ∧ a ≤ p ∧ p ≤ b ∧ Hid ((L.f0.drop k = spR toks l wd ((a : Int) - 1) b (b - p) p ++ dashL toks l wd ((a : Int) - 1) b) ∨ (k = ns ∧ spR toks l wd ((a : Int) - 1) b (b - p) p = [])) ∧ Aside0 (Below W1.heap.size W1 ws)) (fun _ v _ => ns - (intOf v).toNat)
   case atStart => exact ⟨0, a, rfl, Nat.zero_le _, rfl, Nat.le_refl _, hab, .inl (by rw [List.drop_zero]; exact HX.out.spots), ⟨Below.refl _ _⟩⟩
   case round =>
    obtain ⟨k, p, rfl, hk, rfl, hap, hpb, HE, HBs⟩ := hrel
    have hbxs := blk_below HBX.out HBs.out
    have HBXs := Lib.hid hbxs
    have y0 := blk_cell hbxs 0
    have y1 := blk_cell hbxs 1
    have y2 := blk_cell hbxs 2
    simp only [List.getElem?_toArray, List.getElem?_cons_succ, List.getElem?_cons_zero] at y0 y1 y2
    clear hbxs
    by_cases hkn : k < ns
    ·have hkn1 : (k : Int) < (ns : Int) := by omega
     obtain ⟨ads, e1, q0, q1, q2, q3⟩ := at_T57 (Kd.C_below HCS1.out HBs.out) k (by omega) (by omega)
     cases e1
     obtain ⟨s, hs⟩ : ∃ s, rd_T57 L.f0 k = s := ⟨_, rfl⟩
     rw [hs] at q0 q1 q2 q3
     have HSP := Lib.hid hs
     clear hs
     obtain ⟨X, ch, what, tok⟩ := s
     simp only [Int.toNat_natCast] at q0 q1 q2 q3
     go_upto_region 22 with (fail)
     have hW2 : Below W1.heap.size W1 (wr.alloc (.cells #[.int .i64 X, .int .u8 ch, .int .i64 what, .int .i64 tok] 57)) := HBs.out.alloc HBs.out.size _
     have hsx := blk_new wr (.cells #[.int .i64 X, .int .u8 ch, .int .i64 what, .int .i64 tok] 57)
     have hbx2 := blk_alloc HBXs.out (.cells #[.int .i64 X, .int .u8 ch, .int .i64 what, .int .i64 tok] 57)
     generalize wr.alloc (.cells #[.int .i64 X, .int .u8 ch, .int .i64 what, .int .i64 tok] 57) = W2 at *
     generalize wr.heap.size = gs at *
     have hcs2 := Kd.C_below HCS1.out hW2
     have HW2 := Lib.hid hW2
     have HSX := Lib.hid hsx
     have HBX2 := Lib.hid hbx2
     have HCS2 := Lib.hid hcs2
     clear hW2 hsx hbx2 hcs2 HBXs HBs y0 y1 y2 q0 q1 q2 q3
     go_cut [174] (fun v174 wx => v174 = .bool false ∧ Below W2.heap.size W2 wx)
     case first =>
      as_aux_lemma =>
       cases calm with
       | false =>
        refine Go.Det.region_all (fun W => Below W2.heap.size W2 W) (by kernel_rfl) (by kernel_rfl) (below_drew1 (Below.refl _ _)) ?_
        repeat
         apply Go.Det.seqW_cons
         focus
          intro W hS
          replace hS : Below W2.heap.size W2 W := hS
          have y0 := blk_cell (blk_below HBX2.out hS) 0
          have y1 := blk_cell (blk_below HBX2.out hS) 1
          have s0 := blk_cell (blk_below HSX.out hS) 0
          simp only [List.getElem?_toArray, List.getElem?_cons_succ, List.getElem?_cons_zero] at y0 y1 s0
          have HSS := Lib.hid hS
          clear hS
          go_wp2
          exact Go.Det.AtEnd.mk HSS.out
        refine Go.Det.seqW_nil ?_
        intro W hS
        replace hS : Below W2.heap.size W2 W := hS
        have HSS := Lib.hid hS
        clear hS
        simp only [Exit.then]
        go_step
        go_meet
        exact ⟨by first | rfl | (simp; omega), HSS.out⟩
       | true =>
        have hri := (HX.out.calm HCM.out).at (k := k) (by have := HNS.out; omega)
        rw [HSP.out, HLW.out] at hri
        obtain ⟨z1, z2, z3⟩ := hri
        simp only at z1 z2 z3
        by_cases hk0 : k = 0
        ·subst hk0
         clear z3
         refine Go.Det.region_all (fun W => Below W2.heap.size W2 W) (by kernel_rfl) (by kernel_rfl) (below_drew1 (Below.refl _ _)) ?_
         repeat
          apply Go.Det.seqW_cons
          focus
           intro W hS
           replace hS : Below W2.heap.size W2 W := hS
           have y0 := blk_cell (blk_below HBX2.out hS) 0
           have y1 := blk_cell (blk_below HBX2.out hS) 1
           have s0 := blk_cell (blk_below HSX.out hS) 0
           simp only [List.getElem?_toArray, List.getElem?_cons_succ, List.getElem?_cons_zero] at y0 y1 s0
           have HSS := Lib.hid hS
           clear hS
           go_wp2
           exact Go.Det.AtEnd.mk HSS.out
         refine Go.Det.seqW_nil ?_
         intro W hS
         replace hS : Below W2.heap.size W2 W := hS
         have HSS := Lib.hid hS
         clear hS
         simp only [Exit.then]
         go_step
         go_meet
         exact ⟨by first | rfl | (simp; omega), HSS.out⟩
        ·have hpv := z3 (k - 1) (by omega)
         have hk1 : (0 : Int) < (k : Int) := by omega
         have hk2 : (1 : Int) ≤ (k : Int) := by omega
         have hk3 : (0 : Int) ≤ (k : Int) - 1 := by omega
         have hk4 : (k : Int) - 1 < (ns : Int) := by omega
         have hkl := HCS2.out.2.1
         unfold maxLen at hkl
         have htn : ((k : Int) - 1).toNat = k - 1 := by omega
         have HTN := Lib.hid htn
         clear htn
         have hk6 : wrap64 ((k : Int) - 1) = (k : Int) - 1 := w64 (by omega) (by omega)
         have hpe : rd_T57 L.f0 ((k : Int) - 1) = rd_T57 L.f0 ((k - 1 : Nat) : Int) := by rw [show ((k - 1 : Nat) : Int) = (k : Int) - 1 by omega]
         rw [← hpe] at hpv
         obtain ⟨pv, hpv1⟩ : ∃ pv, rd_T57 L.f0 ((k : Int) - 1) = pv := ⟨_, rfl⟩
         rw [hpv1] at hpv
         have HPV := Lib.hid hpv1
         clear hpv1 hpe z3
         obtain ⟨P0, P1, P2, P3⟩ := pv
         simp only at hpv
         refine Go.Det.region_all (fun W => Below W2.heap.size W2 W) (by kernel_rfl) (by kernel_rfl) (below_drew1 (Below.refl _ _)) ?_
         repeat
          apply Go.Det.seqW_cons
          focus
           intro W hS
           replace hS : Below W2.heap.size W2 W := hS
           have y0 := blk_cell (blk_below HBX2.out hS) 0
           have y1 := blk_cell (blk_below HBX2.out hS) 1
           have s0 := blk_cell (blk_below HSX.out hS) 0
           simp only [List.getElem?_toArray, List.getElem?_cons_succ, List.getElem?_cons_zero] at y0 y1 s0
           obtain ⟨_, e2, p0, _⟩ := at_T57 (Kd.C_below HCS2.out hS) ((k : Int) - 1) hk3 hk4
           cases e2
           rw [HPV.out, HTN.out] at p0
           have HSS := Lib.hid hS
           clear hS
           go_wp2
           exact Go.Det.AtEnd.mk HSS.out
         refine Go.Det.seqW_nil ?_
         intro W hS
         replace hS : Below W2.heap.size W2 W := hS
         have HSS := Lib.hid hS
         clear hS
         simp only [Exit.then]
         go_step
         go_meet
         exact ⟨by first | rfl | (simp; omega), HSS.out⟩
     case rest =>
      obtain ⟨rfl, hBw⟩ := hcut
      have HBw := Lib.hid hBw
      have s2 := blk_cell (blk_below HSX.out hBw) 2
      have y0 := blk_cell (blk_below HBX2.out hBw) 0
      have y2 := blk_cell (blk_below HBX2.out hBw) 2
      simp only [List.getElem?_toArray, List.getElem?_cons_succ, List.getElem?_cons_zero] at s2 y0 y2
      clear hBw
      have hE : L.f0.drop k = spR toks l wd ((a : Int) - 1) b (b - p) p ++ dashL toks l wd ((a : Int) - 1) b := by
       rcases HE.out with h | ⟨h, _⟩
       ·exact h
       ·omega
      rcases spR_next toks l wd ((a : Int) - 1) b (b - p) p with ⟨hnil, hall⟩ | ⟨q, hq1, hq2, hall, hkq, hsp⟩
      ·rw [hnil, List.nil_append] at hE
       have hne : dashL toks l wd ((a : Int) - 1) b ≠ [] := by
        intro h
        have := congrArg List.length hE
        rw [List.length_drop, HNS.out, h] at this
        simp at this
        omega
       have hh : hyphP l b = true := by
        unfold dashL at hne
        by_cases h : hyphP l b = true
        ·exact h
        ·rw [if_neg h] at hne
         exact absurd rfl hne
       have hd : dashL toks l wd ((a : Int) - 1) b = [spotP toks (rd_T43 l b) (xL l wd ((a : Int) - 1) b b)] := by
        unfold dashL
        rw [if_pos hh, Int.toNat_natCast]
       rw [hd] at hE
       obtain ⟨_, e1, e2⟩ := rdAt57 hE
       have hnk : ns = k + 1 := by
        have := congrArg List.length hE
        rw [List.length_drop, HNS.out] at this
        simp at this
        omega
       have h3 : (rd_T43 l b).f0 = 3 := by
        have := hh
        simp only [hyphP, Bool.and_eq_true, beq_iff_eq] at this
        exact this.2
       rw [HSP.out] at e1
       have ew : what = 1 := by
        have := congrArg S57.f2 e1
        simp only [spotP, h3] at this
        exact this
       subst ew
       have hb4 := (bitsO_and ov lo dh).2.2.2
       rw [← HX.out.bits, ← HD.out, hh] at hb4
       have HB4 := Lib.hid hb4
       have hnil9 := Lib.hid hnil
       clear hnil hall hE hne hh hd e1 e2 h3 hb4
       have z1 : ((k : Int) == (ns : Int) - 1) = true := beq_iff_eq.2 (by omega)
       have z2 : (1 : Int) ≤ (ns : Int) := by omega
       have hkl := HCS2.out.2.1
       unfold maxLen at hkl
       have z3 : wrap64 ((ns : Int) - 1) = (ns : Int) - 1 := w64 (by omega) (by omega)
       have hb4 : bits BinOp.and .i64 L.f2 4 = 4 := HB4.out
       go_wp2
       clear z3 hb4
       refine ⟨⟨k + 1, p, by simp, by omega, rfl, hap, hpb, .inr ⟨by omega, hnil9.out⟩, ⟨HW2.out.trans (HBw.out.mono HW2.out.size)⟩⟩, by simp [intOf]; omega⟩
      ·rw [hsp, List.cons_append] at hE
       obtain ⟨_, e1, e2⟩ := rdAt57 hE
       rw [HSP.out] at e1
       rw [show p + (b - p) - (q + 1) = b - (q + 1) by omega] at e2
       have hqb : q < b := by omega
       have ew : what = whatP (rd_T43 l q).f0 := congrArg S57.f2 e1
       have et : tok = (rd_T43 l q).f4 := congrArg S57.f3 e1
       have hE9 := Lib.hid e2
       have hkd : ∀ j : Nat, j < n → s20_kind.f l (j : Int) = some (rd_T43 l (j : Int)).f0 := fun j hj => by
        have := HN.out
        unfold s20_kind.f
        rw [if_neg (by omega), if_neg (by omega), if_pos (by omega), if_pos (by omega)]
       have hkc : ∀ (j : Nat) (W : World), j < n → Below W2.heap.size W2 W → Calls Try.prog 32 #[.slice A1 n c1, .int .i64 (j : Int)] W fun e w' => e = .returned (.int .i64 (rd_T43 l (j : Int)).f0) ∧ Drawn0 W w' := fun j W hj hW => by
        have hA := Kd.C_below HA.out ((HW1.out.trans (HW2.out.mono HW1.out.size)).trans (hW.mono (by have := HW1.out.size; have := HW2.out.size; omega)))
        have := s20_kind.calls A1 c1 l j _ W hA (by rw [HN.out]; exact hc1) (hkd j hj)
        rw [HN.out] at this
        exact this
       have HKC := Lib.hid hkc
       have hkq2 : ((rd_T43 l q).f0 == 3) = false := beq_eq_false_iff_ne.2 hkq
       have hw1 : (what == 1) = false := by
        rw [ew]
        unfold whatP
        rw [if_neg hkq]
        split <;> rfl
       have hw2 : (what == 2) = ((rd_T43 l q).f0 == 4) := by
        rw [ew]
        unfold whatP
        rw [if_neg hkq]
        by_cases h4 : (rd_T43 l q).f0 = 4
        ·rw [if_pos h4, beq_iff_eq.2 h4]; rfl
        ·rw [if_neg h4, beq_eq_false_iff_ne.2 h4]; rfl
       have HW9 := Lib.hid hw2
       have HET := Lib.hid et
       have HALL := Lib.hid hall
       have HKQ := Lib.hid hkq2
       clear ew et e1 e2 hE hsp hkd hkc hkq hw2 hall hkq2
       go_wp2_with fail
       go_loopw [13] (fun v13 wz => ∃ (j : Nat), v13 = .int .i64 j ∧ p ≤ j ∧ j ≤ q ∧ Aside0 (Below W2.heap.size W2 wz)) (fun v _ => q - (intOf v).toNat)
       case atStart => exact ⟨p, rfl, Nat.le_refl _, hq1, ⟨HBw.out⟩⟩
       case round =>
        obtain ⟨j, rfl, hj1, hj2, HBz⟩ := hrel
        obtain ⟨ad1, e1, _⟩ := at_T43 (Kd.C_below HA.out ((HW1.out.trans (HW2.out.mono HW1.out.size)).trans (HBz.out.mono (by have := HW1.out.size; have := HW2.out.size; omega)))) q (by omega) (by have := HN.out; omega)
        cases e1
        obtain ⟨ad3, e3, b0⟩ := Kd.at_int (Kd.C_below HBk.out ((HW1.out.trans (HW2.out.mono HW1.out.size)).trans (HBz.out.mono (by have := HW1.out.size; have := HW2.out.size; omega)))) i (by omega) (by have := HM.out; omega)
        cases e3
        rw [HQ2.out] at b0
        simp only [Int.toNat_natCast] at b0
        have hjb : (j : Int) < (b : Int) := by omega
        by_cases hjq : j < q
        ·have hk3 := HALL.out j hj1 hjq
         have HK3 := Lib.hid hk3
         clear hk3
         go_wp2_with fail
         refine (HKC.out j _ (by omega) HBz.out).mono ?_
         rintro _ wk ⟨rfl, hd⟩
         have HBk2 := Lib.hid (HBz.out.trans ((drawn_below hd _).mono HBz.out.size))
         clear hd
         rw [HK3.out]
         go_wp2
         refine ⟨⟨j + 1, by simp, by omega, by omega, ⟨HBk2.out⟩⟩, by simp [intOf]; omega⟩
        ·obtain rfl : j = q := by omega
         go_wp2_with fail
         refine (HKC.out j _ (by omega) HBz.out).mono ?_
         rintro _ wk ⟨rfl, hd⟩
         have HBk2 := Lib.hid (HBz.out.trans ((drawn_below hd _).mono HBz.out.size))
         clear hd
         have hk3 := HKQ.out
         obtain ⟨kq, hkq⟩ : ∃ kq, (rd_T43 l (j : Int)).f0 = kq := ⟨_, rfl⟩
         rw [hkq] at hk3 ⊢
         have HKE := Lib.hid hkq
         clear hkq
         go_upto_region 29 with (fail)
         have hww : Below w.heap.size w wk := (HW1.out.trans (HW2.out.mono HW1.out.size)).trans (HBk2.out.mono (by have := HW1.out.size; have := HW2.out.size; omega))
         have HWW := Lib.hid hww
         have hw9 := HW9.out
         rw [HKE.out] at hw9
         clear hww b0 y0 y2 s2
         go_cut [231] (fun v231 wx => v231 = .bool false ∧ Below wk.heap.size wk wx)
         case first =>
          as_aux_lemma =>
           refine Go.Det.region_all (fun W => Below wk.heap.size wk W) (by kernel_rfl) (by kernel_rfl) (below_drew1 (Below.refl _ _)) ?_
           repeat
            apply Go.Det.seqW_cons
            focus
             intro W hS
             replace hS : Below wk.heap.size wk W := hS
             have s2 := blk_cell (blk_below (blk_below HSX.out HBk2.out) hS) 2
             have s3 := blk_cell (blk_below (blk_below HSX.out HBk2.out) hS) 3
             simp only [List.getElem?_toArray, List.getElem?_cons_succ, List.getElem?_cons_zero] at s2 s3
             obtain ⟨_, e3, b0⟩ := Kd.at_int (Kd.C_below HBk.out (HWW.out.trans (hS.mono HWW.out.size))) i (by omega) (by have := HM.out; omega)
             cases e3
             rw [HQ2.out] at b0
             obtain ⟨_, e1, p0, _, _, _, p4⟩ := at_T43 (Kd.C_below HA.out (HWW.out.trans (hS.mono HWW.out.size))) j (by omega) (by have := HN.out; omega)
             cases e1
             rw [HKE.out] at p0
             rw [← HET.out] at p4
             simp only [Int.toNat_natCast] at b0 p0 p4
             have HSS := Lib.hid hS
             clear hS
             go_wp2
             exact Go.Det.AtEnd.mk HSS.out
           refine Go.Det.seqW_nil ?_
           intro W hS
           replace hS : Below wk.heap.size wk W := hS
           have HSS := Lib.hid hS
           clear hS
           simp only [Exit.then]
           go_step
           go_meet
           exact ⟨by first | rfl | (simp; omega), HSS.out⟩
         case rest =>
          obtain ⟨rfl, hBw2⟩ := hcut
          have HB9 := Lib.hid (HW2.out.trans ((HBk2.out.trans (hBw2.mono HBk2.out.size)).mono HW2.out.size))
          clear hBw2 hw9
          have hkl := HCS2.out.2.1
          unfold maxLen at hkl
          go_wp2
          refine ⟨⟨k + 1, j + 1, by simp, by omega, by simp, by omega, by omega, .inl hE9.out, ⟨HB9.out⟩⟩, by simp [intOf]; omega⟩
    ·obtain rfl : k = ns := by omega
     have hkn1 : ¬ (k : Int) < (k : Int) := by omega
     have hnil : spR toks l wd ((a : Int) - 1) b (b - p) p = [] := by
      rcases HE.out with h | ⟨_, h⟩
      ·have := congrArg List.length h
       rw [List.length_drop, HNS.out, List.length_append] at this
       simp only [Nat.sub_self] at this
       exact List.length_eq_zero_iff.1 (by omega)
      ·exact h
     have hall : ∀ q, p ≤ q → q < b → (rd_T43 l (q : Int)).f0 = 3 := by
      rcases spR_next toks l wd ((a : Int) - 1) b (b - p) p with ⟨_, h⟩ | ⟨q, _, _, _, _, h⟩
      ·exact fun q h1 h2 => h q h1 (by omega)
      ·rw [hnil] at h
       cases h
     obtain ⟨kb, hkb⟩ : ∃ kb, s20_kind.f l (b : Int) = some kb ∧ (kb == 3) = hyphP l b := by
      have := HN.out
      unfold s20_kind.f hyphP
      by_cases hb : b < n
      ·exact ⟨(rd_T43 l (b : Int)).f0, by rw [if_neg (by omega), if_neg (by omega), if_pos (by omega), if_pos (by omega)], by simp; omega⟩
      ·exact ⟨0, by rw [if_neg (by omega), if_pos (by omega)], by simp; omega⟩
     rw [HD.out] at hkb
     have hkd : ∀ j : Nat, j < n → s20_kind.f l (j : Int) = some (rd_T43 l (j : Int)).f0 := fun j hj => by
      have := HN.out
      unfold s20_kind.f
      rw [if_neg (by omega), if_neg (by omega), if_pos (by omega), if_pos (by omega)]
     have hkc : ∀ (j : Nat) (x : Int) (W : World), s20_kind.f l (j : Int) = some x → Below W1.heap.size W1 W → Calls Try.prog 32 #[.slice A1 n c1, .int .i64 (j : Int)] W fun e w' => e = .returned (.int .i64 x) ∧ Drawn0 W w' := fun j x W hj hW => by
      have hA := Kd.C_below HA.out (HW1.out.trans (hW.mono HW1.out.size))
      have := s20_kind.calls A1 c1 l j _ W hA (by rw [HN.out]; exact hc1) hj
      rw [HN.out] at this
      exact this
     have HKC := Lib.hid hkc
     have HKD := Lib.hid hkd
     have HALL := Lib.hid hall
     obtain ⟨hkb1, hkb2⟩ := hkb
     have HKB := Lib.hid hkb1
     have HKB2 := Lib.hid hkb2
     have HB0s := Lib.hid HBs.out
     clear hkc hkd hall hnil hkb1 hkb2
     go_wp2_with fail
     go_loopw [13] (fun v13 wz => ∃ (j : Nat), v13 = .int .i64 j ∧ p ≤ j ∧ j ≤ b ∧ Aside0 (Below W1.heap.size W1 wz)) (fun v _ => b - (intOf v).toNat)
     case atStart => exact ⟨p, rfl, Nat.le_refl _, hpb, ⟨HB0s.out⟩⟩
     case round =>
      obtain ⟨j, rfl, hj1, hj2, HBz⟩ := hrel
      obtain ⟨ad3, e3, b0⟩ := Kd.at_int (Kd.C_below HBk.out (HW1.out.trans (HBz.out.mono HW1.out.size))) i (by omega) (by have := HM.out; omega)
      cases e3
      rw [HQ2.out] at b0
      simp only [Int.toNat_natCast] at b0
      by_cases hjb : j < b
      ·have hjb1 : (j : Int) < (b : Int) := by omega
       have HK3 := Lib.hid (HALL.out j hj1 hjb)
       go_wp2_with fail
       refine (HKC.out j _ _ (HKD.out j (by omega)) HBz.out).mono ?_
       rintro _ wk ⟨rfl, hd⟩
       have HBk2 := Lib.hid (HBz.out.trans ((drawn_below hd _).mono HBz.out.size))
       clear hd
       rw [HK3.out]
       go_wp2
       refine ⟨⟨j + 1, by simp, by omega, by omega, ⟨HBk2.out⟩⟩, by simp [intOf]; omega⟩
      ·obtain rfl : j = b := by omega
       have hjb1 : ¬ (j : Int) < (j : Int) := by omega
       go_upto_region 34 with (fail)
       clear hjb1 hkn1
       have hb4 := (bitsO_and ov lo dh).2.2.2
       rw [← HX.out.bits] at hb4
       have hbx4 := blk_below HBX.out HBz.out
       have HBX4 := Lib.hid hbx4
       have HBZ := Lib.hid HBz.out
       clear hbx4 HBz b0 y0 y1 y2 HB0s HBs HBXs
       go_cut [264] (fun v264 wx => v264 = .bool false ∧ Below wr.heap.size wr wx)
       case first =>
        as_aux_lemma =>
         cases dh with
         | _ =>
          simp at hb4
          have hkb2 := HKB2.out
          refine Go.Det.region_all (fun W => Below wr.heap.size wr W) (by kernel_rfl) (by kernel_rfl) (below_drew1 (Below.refl _ _)) ?_
          repeat
           apply Go.Det.seqW_cons
           focus
            intro W hS
            replace hS : Below wr.heap.size wr W := hS
            have y2 := blk_cell (blk_below HBX4.out hS) 2
            simp only [List.getElem?_toArray, List.getElem?_cons_succ, List.getElem?_cons_zero] at y2
            obtain ⟨_, e3, b0⟩ := Kd.at_int (Kd.C_below HBk.out (HW1.out.trans ((HBZ.out.trans (hS.mono HBZ.out.size)).mono HW1.out.size))) i (by omega) (by have := HM.out; omega)
            cases e3
            rw [HQ2.out] at b0
            simp only [Int.toNat_natCast] at b0
            have HSS := Lib.hid hS
            clear hS
            go_wp2_with (go_at_call 32; refine (HKC.out j _ _ HKB.out (HBZ.out.trans (HSS.out.mono HBZ.out.size))).mono ?_; rintro _ wk ⟨rfl, hd⟩; replace HSS := Lib.hid (HSS.out.trans ((drawn_below hd _).mono HSS.out.size)); clear hd)
            exact Go.Det.AtEnd.mk HSS.out
          refine Go.Det.seqW_nil ?_
          intro W hS
          replace hS : Below wr.heap.size wr W := hS
          have HSS := Lib.hid hS
          clear hS
          simp only [Exit.then]
          go_step
          go_meet
          exact ⟨by first | rfl | (simp; omega), HSS.out⟩
       case rest =>
        obtain ⟨rfl, hBw2⟩ := hcut
        have HB9 := Lib.hid (HBZ.out.trans (hBw2.mono HBZ.out.size))
        clear hBw2 hb4
        go_wp2
        refine ⟨⟨i + 1, j + 1, by simp, by omega, by simp, by omega, HLG1, HLR1, ⟨HW1.out.trans (HB9.out.mono HW1.out.size)⟩, ⟨Kd.C_below HCR1.out HB9.out⟩⟩, by simp [intOf]; omega⟩
end Go.Proofs.Ytbddfnmhhmkfkaa.Pr
