/- The body of LexWhole, walked by hand. -/
import Derived.Test.YthcmfjpheanphaaHlexp
import Derived.Test.YthcmfjpheanphaaPureWhole
namespace Go.Proofs.Ythcmfjpheanphaa.Pr
set_option linter.unusedVariables false
set_option linter.unusedSimpArgs false
open Go.RowKit Go.Shelf Go.Proofs.YthcmfjpheanphaaW.PrintWords Go.Proofs.YthcmfjpheanphaaW.PrintLast Go.Proofs.Ythcmfjpheanphaa.Pure
attribute [local go_sem] Oper.semAt_some

/-- where the round stands -/
def WholeInv (s : ByteArray) (l : List S47) (i p d : Nat) : Prop :=
  i ≤ l.length ∧ p ≤ s.size ∧ s.size ≤ d + p ∧ lexes (allL s d p) = l.drop i ∧ lastE (allL s d p) = 0 ∧ (∀ j, i = j + 1 → (rd_T47 l (j : Int)).f0 = 1 → ¬ (p < s.size ∧ plainP (bt s (p : Int)) = true))

theorem tl123 : (⟨#[123]⟩ : ByteArray).toList = [123] := by decide +kernel
theorem plain_123 : plainP 123 = false := by decide +kernel

set_option pp.maxSteps 3000 in
set_option maxRecDepth 100000 in
set_option maxHeartbeats 4000000 in
theorem lexWhole_short (s : ByteArray) (hs : s.size ≤ 9000) (w : World) :
    Calls Try.prog 9 #[.string s] w fun e w' => e = .returned (.bool true) ∧ Below w.heap.size w w' := by
  have haw := fun w => styluslaw03_awake.calls 20 true w awake03
  obtain ⟨l, at_, e, h1⟩ : ∃ l at_ e, lexP s = (l, at_, e) := ⟨_, _, _, rfl⟩
  have k1 := fun w => lex_Of.calls s l at_ e w (congrArg some h1)
  have hl1 : l.length ≤ 9000 := by
    have := lexP_length s
    rw [h1] at this
    simp only at this
    omega
  have Hk1 := Lib.hid k1
  have H1 := Lib.hid h1
  have Haw := Lib.hid haw
  clear k1 h1 haw
  have g1 : (s.size : Int) ≤ 9000 := by omega
  go_enter Try.func9, Try.ntmps9
  go_wp2_with fail
  refine (Hk1.out _).mono ?_
  rintro _ w1 ⟨v1, rfl, R1, B1⟩
  obtain ⟨A1, c1, rfl⟩ := Kd.R_slice R1
  have HR1 := Lib.hid R1
  clear R1 Hk1
  by_cases he : e = 0
  · subst he
    go_wp2_with fail
    go_loopw [6, 7] (fun v6 v7 wr => ∃ i p d : Nat, v6 = .int .i64 p ∧ v7 = .int .i64 i ∧ WholeInv s l i p d ∧ Below w1.heap.size w1 wr) (fun _ v7 _ => l.length - (intOf v7).toNat)
    case atStart =>
      obtain ⟨j1, j2⟩ := whole_start s l at_ H1.out
      exact ⟨0, 0, s.size, rfl, rfl, ⟨Nat.zero_le _, Nat.zero_le _, by omega, j1, j2, fun j hj => by omega⟩, Below.refl _ _⟩
    case round =>
      obtain ⟨i, p, d, rfl, rfl, ⟨i1, i2, i3, i4, i5, i6⟩, hB⟩ := hrel
      by_cases hlt : i < l.length
      · have hlt1 : (i : Int) < (l.length : Int) := by omega
        obtain ⟨d', z, x, hps, hli, hP, hz1, hz2, n1, n2, n3⟩ := whole_step s l d p i i4 i5 hlt i3 i2
        have R1 := Kd.R_below HR1.out hB
        obtain ⟨ad, e1, q0, q1, q2, q3⟩ := at_T47 (Kd.R_reads' R1).2.2 i (by omega) hlt1
        cases e1
        have hx : rd_T47 l i = x := by
          unfold rd_T47
          rw [Int.toNat_natCast, List.getD_eq_getElem?_getD, hli]
          rfl
        rw [hx] at q0 q1 q2 q3
        simp only [Int.toNat_natCast] at q0 q1 q2 q3
        have hcell : ∀ j, i = j + 1 → ∀ o, (wr.alloc o).cell? (ad.add (j * 4)) = some (.int .i64 (rd_T47 l (j : Int)).f0) := fun j hj o => by
          obtain ⟨ad', e1, q0, _⟩ := at_T47 (Kd.C_alloc (Kd.R_reads' R1).2.2 o) (j : Int) (by omega) (by omega)
          cases e1
          simpa only [Int.toNat_natCast] using q0
        have hpl : p + z ≤ 9000 := by omega
        have hp0 : (p : Int) ≤ 9000 := by omega
        have Hn := Lib.hid (And.intro n1 (And.intro n2 n3))
        have H6 := Lib.hid i6
        have Hc := Lib.hid hcell
        clear R1 i4 i5 i6 n1 n2 n3 hcell H1 i3 hli
        cases hP with
        | text q h1 h2 h3 h4 =>
          have hinv : WholeInv s l (i + 1) q d' := by
            obtain ⟨n1, n2, n3⟩ := Hn.out
            rw [show p + (q - p) = q by omega] at n1 n2 n3
            refine ⟨by omega, by omega, n3, n1, n2, fun j hj h => h4⟩
          have HI := Lib.hid hinv
          have hq1 : (p : Int) < q := by omega
          have hq2 : (q : Int) ≤ s.size := by omega
          have hq3 : (q : Int) ≤ 9000 := by omega
          have hprev : ∀ j, i = j + 1 → (rd_T47 l (j : Int)).f0 ≠ 1 := fun j hj h => H6.out j hj h ⟨hps, h3⟩
          have HP := Lib.hid hprev
          have hz : (s.extract p q).size = q - p := by rw [ByteArray.size_extract]; omega
          have hpq : (p : Int) + ((s.extract p q).size : Int) = q := by omega
          have hne : (s.extract p q).toList.isEmpty = false := Go.Det.ne_str (by omega)
          have hne1 : ((s.extract p q).toList == [123]) = false := by
            rw [beq_eq_false_iff_ne]
            intro e
            have e2 := toList_inj (b := ⟨#[123]⟩) (e.trans tl123.symm)
            have e3 := bt_extract s p q (by omega) 0 (by omega)
            rw [e2] at e3
            have e4 : bt s ((p + 0 : Nat) : Int) = 123 := e3.symm
            rw [Nat.add_zero] at e4
            rw [e4, plain_123] at h3
            exact absurd h3 (by decide)
          have hne2 := beq_eq_false_iff_ne.1 hne1
          have hsl := fun W => Go.Det.sl_str (P := Try.prog) Try.underlying9 s p q (by omega) (by omega) (a := (p : Int)) (b := (q : Int)) rfl rfl W
          generalize s.extract p q = t at *
          clear h3 h4 hx hinv hprev h1 h2 hz1 hz2 hpl H6 Hn hz
          rcases Nat.eq_zero_or_pos i with rfl | hi0
          · have ea : ad.add (0 * 4) = ad := by simp [Addr.add]
            rw [ea] at q0 q1 q2 q3
            clear Hc HP
            go_wp2_with fail
            all_goals exact ⟨⟨_, q, d', by go_num, by go_num, HI.out, hB.alloc hB.size _⟩, by simp [intOf]; omega⟩
          · obtain ⟨j, rfl⟩ : ∃ j, i = j + 1 := ⟨i - 1, by omega⟩
            have hcj := Hc.out j rfl
            have hpj := HP.out j rfl
            generalize (rd_T47 l (j : Int)).f0 = f0 at *
            have hfj : (f0 == 1) = false := beq_eq_false_iff_ne.2 hpj
            clear Hc HP
            go_wp2_with fail
            all_goals exact ⟨⟨_, q, d', by go_num, by go_num, HI.out, hB.alloc hB.size _⟩, by simp [intOf]; omega⟩
        | opens n h1 h2 h3 =>
          have hname := fun w => lex_Name.calls (letP n) n w (congrArg some (name_letP n h1))
          obtain ⟨m1, m2⟩ := name_size n h1
          have hts : (⟨#[123]⟩ ++ n : ByteArray).size = 1 + n.size := by rw [ByteArray.size_append]; rfl
          obtain ⟨q, hq⟩ : ∃ q : Nat, q = p + 1 + n.size := ⟨_, rfl⟩
          have hcat := fun W => run_string_add_sum (P := Try.prog) (w := W) ⟨#[123]⟩ n (by show 1 + n.size ≤ _; omega)
          have hne : (⟨#[123]⟩ ++ n : ByteArray).toList.isEmpty = false := Go.Det.ne_str (by omega)
          have hne1 : ((⟨#[123]⟩ ++ n : ByteArray).toList == [123]) = false := by
            rw [beq_eq_false_iff_ne]
            intro e
            have e2 := congrArg ByteArray.size (toList_inj (b := ⟨#[123]⟩) (e.trans tl123.symm))
            rw [hts] at e2
            have : (⟨#[123]⟩ : ByteArray).size = 1 := rfl
            omega
          have hne2 := beq_eq_false_iff_ne.1 hne1
          have hsl := fun W => Go.Det.sl_str (P := Try.prog) Try.underlying9 s p q (by omega) (by omega) (a := (p : Int)) (b := (q : Int)) rfl rfl W
          rw [hts, show p + (1 + n.size) = q by omega] at h2
          rw [h2] at hsl
          have hpq : (p : Int) + ((⟨#[123]⟩ ++ n : ByteArray).size : Int) = q := by omega
          have hinv : ∀ z', openZ s p n = z' → WholeInv s l (i + 1) (p + z') d' := fun z' e => by
            subst e
            exact ⟨by omega, by omega, Hn.out.2.2, Hn.out.1, Hn.out.2.1, fun j hj h => by
              obtain rfl : j = i := by omega
              rw [hx] at h
              exact absurd (show (2 : Int) = 1 from h) (by decide)⟩
          have HI := Lib.hid hinv
          have HN := Lib.hid hname
          have hq2 : (q : Int) ≤ s.size := by omega
          have hq3 : (q : Int) ≤ 9000 := by omega
          have hcase : (s.size = q ∧ Hid (WholeInv s l (i + 1) q d')) ∨ (∃ y, y = bt s (q : Int) ∧ q < s.size ∧ (y = 32 ∨ y = 10) ∧ Hid (WholeInv s l (i + 1) (q + 1) d')) ∨ (∃ y, y = bt s (q : Int) ∧ q < s.size ∧ (y == 32) = false ∧ (y == 10) = false ∧ Hid (WholeInv s l (i + 1) q d')) := by
            by_cases hqs : s.size = q
            · exact .inl ⟨hqs, Lib.hid (by have := hinv (n.size + 1) (by unfold openZ; rw [if_neg (by omega)]); rwa [show p + (n.size + 1) = q by omega] at this)⟩
            · by_cases hw : whiteP (bt s (q : Int)) = true
              · refine .inr (.inl ⟨_, rfl, by omega, ?_, Lib.hid ?_⟩)
                · unfold whiteP at hw
                  simpa using hw
                · have := hinv (n.size + 2) (by unfold openZ; rw [if_pos ⟨by omega, by rw [show p + n.size + 1 = q by omega]; exact hw⟩])
                  rwa [show p + (n.size + 2) = q + 1 by omega] at this
              · refine .inr (.inr ⟨_, rfl, by omega, ?_, ?_, Lib.hid ?_⟩)
                · unfold whiteP at hw
                  simp at hw
                  exact beq_eq_false_iff_ne.2 hw.1
                · unfold whiteP at hw
                  simp at hw
                  exact beq_eq_false_iff_ne.2 hw.2
                · have := hinv (n.size + 1) (by unfold openZ; rw [if_neg (fun h => by rw [show p + n.size + 1 = q by omega] at h; exact hw h.2)])
                  rwa [show p + (n.size + 1) = q by omega] at this
          clear h2 hx hinv hname hz1 hz2 hpl H6 Hn hts h3 Hc
          generalize (⟨#[123]⟩ : ByteArray) ++ n = t at *
          generalize letP n = y0 at *
          clear hq
          rcases hcase with ⟨hc, HW⟩ | ⟨y, hy, hc, hyy, HW⟩ | ⟨y, hy, hc, hyy, hyz, HW⟩
          · subst hc
            go_wp2_with (go_at_call 48; refine (HN.out _).mono ?_; rintro _ w2 ⟨rfl, hb⟩; have c0 : w2.cell? ⟨wr.heap.size, 0, none⟩ = some (.int .i64 2) := by rw [blk_cell (blk_below (blk_new wr _) hb) 0]; rfl)
            all_goals exact ⟨⟨i + 1, s.size, d', by go_num, by go_num, HW.out, (hB.alloc hB.size _).trans (hb.mono (by have := hB.size; simp; omega))⟩, by simp [intOf]; omega⟩
          · have hg : ((s[q].toNat : Nat) : Int) = bt s (q : Int) := bt_at s (q : Int) (by simpa using hc)
            rw [← hy] at hg
            rcases hyy with rfl | rfl
            · go_wp2_with (go_at_call 48; refine (HN.out _).mono ?_; rintro _ w2 ⟨rfl, hb⟩; have c0 : w2.cell? ⟨wr.heap.size, 0, none⟩ = some (.int .i64 2) := by rw [blk_cell (blk_below (blk_new wr _) hb) 0]; rfl)
              all_goals exact ⟨⟨i + 1, q + 1, d', by go_num, by go_num, HW.out, (hB.alloc hB.size _).trans (hb.mono (by have := hB.size; simp; omega))⟩, by simp [intOf]; omega⟩
            · go_wp2_with (go_at_call 48; refine (HN.out _).mono ?_; rintro _ w2 ⟨rfl, hb⟩; have c0 : w2.cell? ⟨wr.heap.size, 0, none⟩ = some (.int .i64 2) := by rw [blk_cell (blk_below (blk_new wr _) hb) 0]; rfl)
              all_goals exact ⟨⟨i + 1, q + 1, d', by go_num, by go_num, HW.out, (hB.alloc hB.size _).trans (hb.mono (by have := hB.size; simp; omega))⟩, by simp [intOf]; omega⟩
          · have hg : ((s[q].toNat : Nat) : Int) = bt s (q : Int) := bt_at s (q : Int) (by simpa using hc)
            rw [← hy] at hg
            clear hy
            have hyy1 : ¬ ((s[q].toNat : Nat) : Int) = 32 := by rw [hg]; exact beq_eq_false_iff_ne.1 hyy
            have hyz1 : ¬ ((s[q].toNat : Nat) : Int) = 10 := by rw [hg]; exact beq_eq_false_iff_ne.1 hyz
            have hyy2 : (((s[q].toNat : Nat) : Int) == 32) = false := beq_eq_false_iff_ne.2 hyy1
            have hyz2 : (((s[q].toNat : Nat) : Int) == 10) = false := beq_eq_false_iff_ne.2 hyz1
            clear hg hyy hyz
            go_wp2_with (go_at_call 48; refine (HN.out _).mono ?_; rintro _ w2 ⟨rfl, hb⟩; have c0 : w2.cell? ⟨wr.heap.size, 0, none⟩ = some (.int .i64 2) := by rw [blk_cell (blk_below (blk_new wr _) hb) 0]; rfl)
            all_goals exact ⟨⟨i + 1, q, d', by go_num, by go_num, HW.out, (hB.alloc hB.size _).trans (hb.mono (by have := hB.size; simp; omega))⟩, by simp [intOf]; omega⟩
        | closes h1 h2 =>
          have hpart := Lib.hid h1
          have hlen : (p : Int) + 1 ≤ s.size := by omega
          have hsl := fun W => Go.Det.sl_str (P := Try.prog) Try.underlying9 s p (p + 1) (by omega) (by omega) (a := (p : Int)) (b := (p : Int) + 1) rfl (by omega) W
          rw [h1] at hsl
          clear h1
          have hinv : WholeInv s l (i + 1) (p + 1) d' := ⟨by omega, by omega, Hn.out.2.2, Hn.out.1, Hn.out.2.1, fun j hj h => by
            obtain rfl : j = i := by omega
            rw [hx] at h
            exact absurd (show (3 : Int) = 1 from h) (by decide)⟩
          have HI := Lib.hid hinv
          clear hinv Hn H6 Hc hx
          go_wp2_with fail
          all_goals exact ⟨⟨i + 1, p + 1, d', by go_num, by go_num, HI.out, hB.alloc hB.size _⟩, by simp [intOf]; omega⟩
      · have hlt1 : (i : Int) = (l.length : Int) := by omega
        obtain rfl : i = l.length := by omega
        obtain rfl := whole_end s l d p i4 i3 i2
        clear i4 i5 i6
        go_wp2_with (go_at_call 44; refine (Haw.out _).mono ?_; rintro _ w6 ⟨rfl, hb6⟩)
        go_ret
        exact ⟨rfl, B1.trans ((hB.trans (hb6.mono hB.size)).mono B1.size)⟩
  · have h5 := whole_bad s l at_ e H1.out he
    subst h5
    have f1 : (e == 0) = false := beq_eq_false_iff_ne.2 he
    have f2 : (e != 0) = true := bne_iff_ne.2 he
    clear H1
    go_wp2_with (go_at_call 44; refine (Haw.out _).mono ?_; rintro _ w4 ⟨rfl, hb4⟩)
    go_ret
    exact ⟨rfl, B1.trans (hb4.mono B1.size)⟩
set_option pp.maxSteps 3000 in
set_option maxRecDepth 100000 in
set_option maxHeartbeats 1000000 in
theorem lexWhole_walk (s : ByteArray) (w : World) (w0 : s.size ≤ 140737488351232) :
    Calls Try.prog 9 #[.string s] w fun e w' => e = .returned (.bool true) ∧ Below w.heap.size w w' := by
  by_cases hs : s.size ≤ 9000
  · exact lexWhole_short s hs w
  · have haw := fun w => styluslaw03_awake.calls 20 true w awake03
    have Haw := Lib.hid haw
    clear haw
    have g1 : (9000 : Int) < (s.size : Int) := by omega
    clear hs
    go_enter Try.func9, Try.ntmps9
    go_wp2_with (go_at_call 44; refine (Haw.out _).mono ?_; rintro _ w6 ⟨rfl, hb6⟩)
    go_ret
    exact ⟨rfl, hb6⟩
end Go.Proofs.Ythcmfjpheanphaa.Pr
