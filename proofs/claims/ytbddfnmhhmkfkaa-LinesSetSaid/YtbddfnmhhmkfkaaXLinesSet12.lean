/- Texts of this seat, one behind the other. -/
import Derived.Test.YtbddfnmhhmkfkaaXLinesSet1
import Derived.Test.YtbddfnmhhmkfkaaXLinesSet2
import Derived.Test.YtbddfnmhhmkfkaaXLinesSet3
import Derived.Test.YtbddfnmhhmkfkaaXLinesSet4
import Derived.Test.YtbddfnmhhmkfkaaXLinesSet5
import Derived.Test.YtbddfnmhhmkfkaaXLinesSet6
import Derived.Test.YtbddfnmhhmkfkaaXLinesSet7
import Derived.Test.YtbddfnmhhmkfkaaXLinesSet8
import Derived.Test.YtbddfnmhhmkfkaaXLinesSet9
import Derived.Test.YtbddfnmhhmkfkaaXLinesSet11
set_option linter.unusedVariables false
set_option linter.unusedSimpArgs false
namespace Go.Proofs.Ytbddfnmhhmkfkaa.Pr
open Go.RowKit Go.Proofs.YtbddfnmhhmkfkaaW.PrintWords Go.Proofs.YtbddfnmhhmkfkaaW.PrintLast Go.Proofs.YtbddfnmhhmkfkaaW.PrintMore
attribute [local go_sem] Oper.semAt_some
def stylusref20_Set.f (k : Nat) (l0 : List S101) (l1 : List S43) (a2 a3 a4 : Int) : Option (List S57 × Int × Int) :=
 if checkP l1 a2 = 0 ∧ l1.length ≤ 1000 ∧ l1.any (oddT l0) = false ∧ -1 ≤ a3 ∧ a3 < a4 ∧ a4 ≤ l1.length then some ((lineC l0 l1 a2 a3 a4).f0, (lineC l0 l1 a2 a3 a4).f1, (lineC l0 l1 a2 a3 a4).f2) else none
theorem stylusref20_Set.mono : ∀ a0 a1 a2 a3 a4 k, LeO (stylusref20_Set.f k a0 a1 a2 a3 a4) (stylusref20_Set.f (k + 1) a0 a1 a2 a3 a4) := fun _ _ _ _ _ _ => LeO.refl _
structure SetJ (w W : World) (gx B : Nat) (wd bt : Int) (sp : List S57) (v : Value) : Prop where
 hX : W.heap[gx]? = some (.cells #[v, .int .i64 wd, .int .i64 bt] 55 (0, 0))
 hR : W.heap[w.heap.size]? = some (.cells #[.slice none 0 0, .int .i64 0, .int .i64 0] 55 (0, 0))
 own : W.ownsRow B 57 4 v sp.length (flat57 sp)
 le : B ≤ W.heap.size
 lo : w.heap.size < gx
 hi : gx < B
 hB : Below w.heap.size w W
theorem SetJ.below {w W W' : World} {gx B : Nat} {wd bt : Int} {sp : List S57} {v : Value} (h : SetJ w W gx B wd bt sp v) (hb : Below W.heap.size W W') : SetJ w W' gx B wd bt sp v :=
 ⟨blk_below h.hX hb, blk_below h.hR hb, pw_own_below h.own hb, Nat.le_trans h.le hb.size, h.lo, h.hi, h.hB.trans (hb.mono h.hB.size)⟩
def SF (wr : World) : Option Value → World → Prop
 | none, W => Below wr.heap.size wr W
 | some v, W => Below wr.heap.size wr W ∧ ∃ g, v = .pointer (some ⟨g, 0, none⟩) ∧ wr.heap.size ≤ g ∧ W.heap[g]? = some (.cells #[.int .i64 0, .int .u8 0, .int .i64 0, .int .i64 0] 57 (0, 0))
theorem SF.base {wr W : World} : ∀ {s : Option Value}, SF wr s W → Below wr.heap.size wr W
 | none, h => h
 | some _, h => h.1
theorem SF.below {wr W W' : World} : ∀ {s : Option Value}, SF wr s W → Below W.heap.size W W' → SF wr s W'
 | none, h, hb => Below.trans h (hb.mono (Below.size h))
 | some _, h, hb => by
  obtain ⟨h1, g, h2, h3, h4⟩ := h
  exact ⟨h1.trans (hb.mono h1.size), g, h2, h3, blk_below h4 hb⟩
theorem SetJ.put {w W W7 : World} {gx B : Nat} {wd bt : Int} {sp : List S57} {v : Value} (h : SetJ w W gx B wd bt sp v) {o : Obj} {A' : Option Addr} {m c' : Nat} {sp' : List S57} (hm : sp'.length = m)
  (hown : W7.ownsRow B 57 4 (.slice A' m c') m (flat57 sp')) (hg : (W.alloc o).grownBy W7 v.ownBlock) : SetJ w (W7.setCell ⟨gx, 0, none⟩ (.slice A' m c')) gx B wd bt sp' (.slice A' m c') := by
 have hne := own_apart h.own h.hX (by decide)
 have hnr := own_apart h.own h.hR (by decide)
 have g1 := blk_grown (blk_alloc h.hX o) hg hne
 have g2 := blk_grown (blk_alloc h.hR o) hg hnr
 have hgne := own_apart hown g1 (by decide)
 have hlo := h.lo
 refine ⟨blk_put g1 0 _ rfl, blk_far g2 (p := ⟨gx, 0, none⟩) (by show w.heap.size ≠ gx; omega) _, ?_, ?_, h.lo, h.hi, ?_⟩
 ·rw [hm]
  exact own_setCell hown (p := ⟨gx, 0, none⟩) hgne _
 ·have := hg.size
  have := h.le
  simp [World.setCell] at *
  omega
 ·have hB := h.hB
  refine ⟨hg.os.trans hB.os, hg.tape.trans hB.tape, hg.output.trans hB.output, ?_, fun i hi => ?_⟩
  ·have := hg.size
   have := hB.size
   simp [World.setCell] at *
   omega
  ·have h1 := hB.size
   rw [Below.heap_setCell _ _ _ _ (by show i ≠ gx; omega), hg.block i (by simp; omega) (fun e => by
    have := own_base h.own i e.symm
    have := h.hi
    omega), Below.heap_alloc _ _ _ (by omega)]
   exact hB.block i hi
theorem SetJ.bits {w W : World} {gx B : Nat} {wd bt : Int} {sp : List S57} {v : Value} (h : SetJ w W gx B wd bt sp v) (bt' : Int) : SetJ w (W.setCell ⟨gx, 2, none⟩ (.int .i64 bt')) gx B wd bt' sp v := by
 have hlo := h.lo
 have hne := own_apart h.own h.hX (by decide)
 exact ⟨blk_put h.hX 2 _ rfl, blk_far h.hR (p := ⟨gx, 2, none⟩) (by show w.heap.size ≠ gx; omega) _, own_setCell h.own (p := ⟨gx, 2, none⟩) hne _, by simpa [World.setCell] using h.le, h.lo, h.hi, h.hB.setCell (p := ⟨gx, 2, none⟩) (Nat.le_of_lt h.lo) _⟩
theorem SetJ.fin {w W : World} {gx B : Nat} {wd bt : Int} {sp : List S57} {A' : Option Addr} {m c' : Nat} (hm : sp.length = m) (h : SetJ w W gx B wd bt sp (.slice A' m c')) :
  let W9 := ((W.setCell ⟨w.heap.size, 0, none⟩ (.slice A' m c')).setCell ⟨w.heap.size, 1, none⟩ (.int .i64 wd)).setCell ⟨w.heap.size, 2, none⟩ (.int .i64 bt)
  W9.heap[w.heap.size]? = some (.cells #[.slice A' m c', .int .i64 wd, .int .i64 bt] 55 (0, 0)) ∧ Kd.R k57 57 W9 w.heap.size (fun _ => True) (.slice A' m c') sp ∧ Below w.heap.size w W9 := by
 have hne := own_apart h.own h.hR (by decide)
 have hr := blk_set (blk_set (blk_set h.hR 0 (.slice A' m c')) 1 (.int .i64 wd)) 2 (.int .i64 bt)
 have ho := own_setCell (own_setCell (own_setCell h.own (p := ⟨w.heap.size, 0, none⟩) hne (.slice A' m c')) (p := ⟨w.heap.size, 1, none⟩) hne (.int .i64 wd)) (p := ⟨w.heap.size, 2, none⟩) hne (.int .i64 bt)
 have hb := ((h.hB.setCell (p := ⟨w.heap.size, 0, none⟩) (Nat.le_refl _) (.slice A' m c')).setCell (p := ⟨w.heap.size, 1, none⟩) (Nat.le_refl _) (.int .i64 wd)).setCell (p := ⟨w.heap.size, 2, none⟩) (Nat.le_refl _) (.int .i64 bt)
 have hlo := h.lo
 have hhi := h.hi
 refine ⟨by simpa using hr, own_R57 (own_weaken ho (by omega)) _ (fun _ _ => trivial), hb⟩
set_option maxRecDepth 100000 in
set_option maxHeartbeats 8000000 in
theorem stylusref20_Set.calls (k : Nat) (A0 : Option Addr) (c0 : Nat) (l0 : List (S101)) (A1 : Option Addr) (c1 : Nat) (l1 : List (S43)) (a2 : Int) (a3 : Int) (a4 : Int) (r1 : List (S57)) (r2 : Int) (r3 : Int) (w : World) (hr0 : Kd.C k101 w A0 l0.length l0) (hc0 : l0.length ≤ c0) (hr1 : Kd.C k43 w A1 l1.length l1) (hc1 : l1.length ≤ c1) (h : stylusref20_Set.f k l0 l1 a2 a3 a4 = some (r1, r2, r3)) :
  Calls Try.prog 65 #[.slice A0 l0.length c0, .slice A1 l1.length c1, .int .i64 a2, .int .i64 a3, .int .i64 a4] w fun e w' => ∃ v0_ : Value, e = .returned (.agg #[v0_, .int .i64 r2, .int .i64 r3]) ∧ Kd.R k57 57 w' w.heap.size (fun _ => True) v0_ r1 ∧ Below w.heap.size w w' := by
 unfold stylusref20_Set.f at h
 by_cases hc : checkP l1 a2 = 0 ∧ l1.length ≤ 1000 ∧ l1.any (oddT l0) = false ∧ -1 ≤ a3 ∧ a3 < a4 ∧ a4 ≤ l1.length
 case neg => rw [if_neg hc] at h; cases h
 rw [if_pos hc] at h
 obtain ⟨hck, hl, hodd, h3, h34, h4⟩ := hc
 have ok := check_ok hck
 obtain ⟨a, ha⟩ : ∃ a : Nat, a3 + 1 = a := ⟨(a3 + 1).toNat, by omega⟩
 obtain ⟨b, rfl⟩ : ∃ b : Nat, a4 = b := ⟨a4.toNat, by omega⟩
 have hab : a ≤ b := by omega
 have hbl : b ≤ l1.length := by omega
 obtain rfl : a3 = (a : Int) - 1 := by omega
 obtain ⟨n, hn⟩ : ∃ n, l1.length = n := ⟨_, rfl⟩
 obtain ⟨nt, hnt⟩ : ∃ n, l0.length = n := ⟨_, rfl⟩
 have HR := Lib.hid h
 have HT := Lib.hid hr0
 have HA := Lib.hid hr1
 have HC0 := Lib.hid hc0
 have HC1 := Lib.hid hc1
 have HN := Lib.hid hn
 have HNT := Lib.hid hnt
 obtain ⟨kl, hkl⟩ := (refLine_ev ok (f := (a : Int) - 1) (t := b) (by omega) (by omega) (by omega)).rounds
 obtain ⟨ks, hks⟩ := (refSlack_ev ok (f := (a : Int) - 1) (t := b) (by omega) (by omega) (by omega)).rounds
 have hxe : ∀ i : Nat, a ≤ i → i ≤ b → ∃ k, stylusref20_X.f k l1 a2 ((a : Int) - 1) b i = some (xL l1 a2 ((a : Int) - 1) b i) := fun i h1 h2 => (refX_ev ok hab hbl (by omega) h1 h2).rounds
 have hse : ∀ i : Nat, i < l1.length → ∃ k, stylusref20_Shows.f k l0 (rd_T43 l1 (i : Int)).f0 (rd_T43 l1 (i : Int)).f1 (rd_T43 l1 (i : Int)).f2 (rd_T43 l1 (i : Int)).f3 (rd_T43 l1 (i : Int)).f4 = some (showP l0 (rd_T43 l1 (i : Int))).1 := fun i hi => (refShows_ev l0 _ (by
  have := List.any_eq_false.1 hodd _ (List.mem_of_getElem? (rd_get hi))
  simpa using this)).rounds
 have hcLine : ∀ W, Below w.heap.size w W → Calls Try.prog 55 #[.slice A1 n c1, .int .i64 ((a : Int) - 1), .int .i64 b] W fun e w' => e = .returned (.tuple #[.int .i64 (lineN l1 ((a : Int) - 1) b), .int .i64 (lineY l1 ((a : Int) - 1) b), .int .i64 (lineZ l1 ((a : Int) - 1) b)]) ∧ Drawn0 W w' := fun W hW => by
  rw [← hn]
  exact stylusref19_Line.calls kl A1 c1 l1 _ _ _ _ _ W (Kd.C_below hr1 hW) hc1 hkl
 have hcSlack : ∀ W, Below w.heap.size w W → Calls Try.prog 87 #[.slice A1 n c1, .int .i64 a2, .int .i64 ((a : Int) - 1), .int .i64 b] W fun e w' => e = .returned (.int .i64 (slackL l1 a2 ((a : Int) - 1) b)) ∧ Drawn0 W w' := fun W hW => by
  rw [← hn]
  exact stylusref20_Slack.calls ks A1 c1 l1 _ _ _ _ W (Kd.C_below hr1 hW) hc1 hks
 have hcX : ∀ (i : Nat) W, a ≤ i → i ≤ b → Below w.heap.size w W → Calls Try.prog 88 #[.slice A1 n c1, .int .i64 a2, .int .i64 ((a : Int) - 1), .int .i64 b, .int .i64 i] W fun e w' => e = .returned (.int .i64 (xL l1 a2 ((a : Int) - 1) b i)) ∧ Drawn0 W w' := fun i W h1 h2 hW => by
  obtain ⟨k, hk⟩ := hxe i h1 h2
  rw [← hn]
  exact stylusref20_X.calls k A1 c1 l1 _ _ _ _ _ W (Kd.C_below hr1 hW) hc1 hk
 have hcS : ∀ (i : Nat) W, i < n → Below w.heap.size w W → Calls Try.prog 89 #[.slice A0 nt c0, .agg #[.int .i64 (rd_T43 l1 (i : Int)).f0, .int .i64 (rd_T43 l1 (i : Int)).f1, .int .i64 (rd_T43 l1 (i : Int)).f2, .int .i64 (rd_T43 l1 (i : Int)).f3, .int .i64 (rd_T43 l1 (i : Int)).f4]] W fun e w' => e = .returned (.int .u8 (showP l0 (rd_T43 l1 (i : Int))).1) ∧ Below W.heap.size W w' := fun i W h1 hW => by
  obtain ⟨k, hk⟩ := hse i (by omega)
  rw [← hnt]
  exact stylusref20_Shows.calls k A0 c0 l0 _ _ _ _ _ _ W (Kd.C_below hr0 hW) hc0 hk
 have hcH : ∀ W, Below w.heap.size w W → Calls Try.prog 57 #[.slice A1 n c1, .int .i64 b] W fun e w' => e = .returned (.bool (hyphP l1 b)) ∧ Drawn0 W w' := fun W hW => by
  rw [← hn]
  exact stylusref19_Hyphen.calls A1 c1 l1 _ _ W (Kd.C_below hr1 hW) hc1 (refHyphen_f l1 b)
 have HCL := Lib.hid hcLine
 have HCS := Lib.hid hcSlack
 have HCX := Lib.hid hcX
 have HCH := Lib.hid hcH
 have HSH := Lib.hid hcS
 have HOK := Lib.hid ok
 have hbn : b ≤ n := by omega
 have hn1 : n ≤ 1000 := by omega
 obtain ⟨bN, bY, bZ⟩ := line_bd ok (f := (a : Int) - 1) (t := b) (by omega) (by omega) (by omega)
 have bs := slackO_bd (w := a2) (n := lineN l1 ((a : Int) - 1) b) (y := lineY l1 ((a : Int) - 1) b) (z := lineZ l1 ((a : Int) - 1) b) (by omega) (by omega) ((b : Int) == (l1.length : Int))
 have hslk : slackL l1 a2 ((a : Int) - 1) b = slackO a2 (lineN l1 ((a : Int) - 1) b) (lineY l1 ((a : Int) - 1) b) (lineZ l1 ((a : Int) - 1) b) ((b : Int) == (l1.length : Int)) := rfl
 rw [← hslk] at bs
 clear hslk h hr0 hr1 hkl hks hxe hse hcLine hcSlack hcX hcS hcH hck hodd ok hl h3 h34 h4 ha
 rw [hn, hnt]
 have hW1 := hn1
 have hw0 := HOK.out.w0
 have hw1 := HOK.out.w1
 clear hn hnt hc0 hc1 hbl
 obtain ⟨N, hNe⟩ : ∃ N, lineN l1 ((a : Int) - 1) b = N := ⟨_, rfl⟩
 obtain ⟨Y, hYe⟩ : ∃ N, lineY l1 ((a : Int) - 1) b = N := ⟨_, rfl⟩
 obtain ⟨Z, hZe⟩ : ∃ N, lineZ l1 ((a : Int) - 1) b = N := ⟨_, rfl⟩
 obtain ⟨SL, hSe⟩ : ∃ N, slackL l1 a2 ((a : Int) - 1) b = N := ⟨_, rfl⟩
 rw [hNe] at bN
 rw [hYe] at bY bs
 rw [hZe] at bZ bs
 rw [hSe] at bs
 have HNe := Lib.hid hNe
 have HYe := Lib.hid hYe
 have HZe := Lib.hid hZe
 have HSe := Lib.hid hSe
 clear hNe hYe hZe hSe
 have hr0 := blk_new w (.cells #[.slice none 0 0, .int .i64 0, .int .i64 0] 55)
 have hb0 := (Below.refl w.heap.size w).alloc (Nat.le_refl _) (.cells #[.slice none 0 0, .int .i64 0, .int .i64 0] 55)
 obtain ⟨w1, hw1e⟩ : ∃ w1, w.alloc (.cells #[.slice none 0 0, .int .i64 0, .int .i64 0] 55) = w1 := ⟨_, rfl⟩
 rw [hw1e] at hr0 hb0
 have hsz1 : w1.heap.size = w.heap.size + 1 := by rw [← hw1e]; simp
 have HR0 := Lib.hid hr0
 have HB0 := Lib.hid hb0
 have HZ1 := Lib.hid hsz1
 clear hr0 hb0 hsz1
 go_enter Try.func65, Try.ntmps65
 go_wp2_with fail
 clear hw1e
 refine (HCL.out _ HB0.out).mono ?_
 rintro _ w2 ⟨rfl, hd2⟩
 rw [HNe.out, HYe.out, HZe.out]
 have hb2 := HB0.out.trans ((drawn_below hd2 w1.heap.size).mono HB0.out.size)
 have hr2 := blk_below HR0.out (drawn_below hd2 w1.heap.size)
 have hsz2 : w2.heap.size = w.heap.size + 1 := by
  obtain ⟨⟨m, rfl⟩⟩ := hd2
  exact HZ1.out
 have HB2 := Lib.hid hb2
 have HR2 := Lib.hid hr2
 have HZ2 := Lib.hid hsz2
 clear hb2 hr2 hsz2 hd2
 go_wp2_with fail
 refine (HCS.out _ HB2.out).mono ?_
 rintro _ w3 ⟨rfl, hd3⟩
 rw [HSe.out]
 have hb3 := HB2.out.trans ((drawn_below hd3 w2.heap.size).mono HB2.out.size)
 have hr3 := blk_below HR2.out (drawn_below hd3 w2.heap.size)
 have hsz3 : w3.heap.size = w.heap.size + 1 := by
  obtain ⟨⟨m, rfl⟩⟩ := hd3
  exact HZ2.out
 have hnx := blk_new w3 (.cells #[.slice none 0 0, .int .i64 (N + SL), .int .i64 0] 55)
 have hJ : SetJ w (w3.alloc (.cells #[.slice none 0 0, .int .i64 (N + SL), .int .i64 0] 55)) w3.heap.size (w3.heap.size + 1) (N + SL) 0 [] (.slice none 0 0) :=
  ⟨hnx, blk_alloc hr3 _, ⟨rfl, .inl ⟨rfl, rfl⟩⟩, by simp, by omega, by omega, hb3.alloc (by omega) _⟩
 have HJ := Lib.hid hJ
 clear hb3 hr3 hsz3 hd3 hnx hJ
 go_wp2_with fail
 have hle := HJ.out.hi
 generalize w3.alloc (.cells #[.slice none 0 0, .int .i64 (N + SL), .int .i64 0] 55) = W0 at *
 generalize w3.heap.size + 1 = B at *
 generalize w3.heap.size = gx at *
 clear hle
 go_loopw [15] (fun v15 wr => ∃ (i : Nat) (v : Value), v15 = .int .i64 i ∧ a ≤ i ∧ i ≤ b ∧ Aside0 (SetJ w wr gx B (N + SL) 0 (spotsL l0 l1 a2 ((a : Int) - 1) b a (i - a)) v)) (fun v _ => b - (intOf v).toNat)
 case atStart => exact ⟨a, .slice none 0 0, by simp, Nat.le_refl _, hab, ⟨by rw [Nat.sub_self]; exact HJ.out⟩⟩
 case round =>
  obtain ⟨i, v, rfl, hai, hib, HI⟩ := hrel
  by_cases hlt : i < b
  ·have hlt1 : (i : Int) < (b : Int) := by omega
   obtain ⟨ad, e1, q0, q1, q2, q3, q4⟩ := at_T43 (Kd.C_below HA.out HI.out.hB) i (by omega) (by have := HN.out; omega)
   cases e1
   have hspn : spotsL l0 l1 a2 ((a : Int) - 1) b a (i + 1 - a) = spotsL l0 l1 a2 ((a : Int) - 1) b a (i - a) ++ if (rd_T43 l1 (i : Int)).f0 = 3 then [] else [spotP l0 (rd_T43 l1 (i : Int)) (xL l1 a2 ((a : Int) - 1) b i)] := by
    rw [show i + 1 - a = i - a + 1 by omega, spotsL, show a + (i - a) = i by omega]
   have hlen := spotsL_len l0 l1 a2 ((a : Int) - 1) b a (i - a)
   have hcx := fun W hW => HCX.out i W hai hib hW
   have hsh := fun W hW => HSH.out i W (by omega) hW
   generalize hxe : rd_T43 l1 (i : Int) = x at *
   generalize spotsL l0 l1 a2 ((a : Int) - 1) b a (i - a) = sp at *
   have hsp1 : spotP l0 x (xL l1 a2 ((a : Int) - 1) b i) = ⟨xL l1 a2 ((a : Int) - 1) b i, (showP l0 x).1, whatP x.f0, x.f4⟩ := rfl
   rw [hsp1] at hspn
   obtain ⟨X, hX⟩ : ∃ X, xL l1 a2 ((a : Int) - 1) b i = X := ⟨_, rfl⟩
   obtain ⟨ch, hch⟩ : ∃ ch, (showP l0 x).1 = ch := ⟨_, rfl⟩
   rw [hX, hch] at hspn
   simp only [hX] at hcx
   simp only [hch] at hsh
   clear hsp1 hX hch
   obtain ⟨f0, f1, f2, f3, f4⟩ := x
   have HXE := Lib.hid hxe
   clear hxe
   simp only [Int.toNat_natCast] at q0 q1 q2 q3 q4 hspn hsh
   have HSP := Lib.hid hspn
   have HX := Lib.hid hcx
   have HS := Lib.hid hsh
   have HI9 := Lib.hid HI.out
   clear hspn hcx hsh HI
   by_cases h3 : f0 = 3
   ·subst h3
    go_wp2_with fail
    refine ⟨⟨i + 1, v, by simp, by omega, by omega, ⟨?_⟩⟩, by simp [intOf]; omega⟩
    rw [HSP.out, if_pos rfl, List.append_nil]
    exact HI9.out
   ·have h3b : (f0 == 3) = false := beq_eq_false_iff_ne.2 h3
    have H3 := Lib.hid h3
    clear h3
    go_wp2_with fail
    obtain ⟨wd, hwd⟩ : ∃ wd, wr.drew = wd := ⟨_, rfl⟩
    have hJd : SetJ w wd gx B (N + SL) 0 sp v := by rw [← hwd]; exact HI9.out.below (below_drew1 (Below.refl _ _))
    have q0' : wd.cell? (ad.add (i * 5)) = some (.int .i64 f0) := by rw [← hwd]; exact q0
    have HJ9 := Lib.hid hJd
    clear hJd
    refine Go.Free.region_free (SF wd) 18 19 _ rfl (by kernel_rfl) (by kernel_rfl) (by rw [hwd]; exact Below.refl _ _) (fun x W hS => ⟨rfl, ?_⟩) ?_
    ·have hb := Below.alloc (show Below wd.heap.size wd W from hS) (Below.size hS) (.cells #[.int .i64 0, .int .u8 0, .int .i64 0, .int .i64 0] 57)
     have hg := blk_new W (.cells #[.int .i64 0, .int .u8 0, .int .i64 0, .int .i64 0] 57)
     have hsz := Below.size hS
     unfold Oper.wp
     rw [show (execOp x.eval _).run Try.prog W = .ok (.value (.pointer (some ⟨W.heap.size, 0, none⟩))) (W.alloc (.cells #[.int .i64 0, .int .u8 0, .int .i64 0, .int .i64 0] 57)) by first | (go_simp; done) | (go_simp; rfl)]
     exact ⟨_, rfl, hb, W.heap.size, rfl, hsz, hg⟩
    clear hwd
    repeat
     apply Go.Free.seqF_cons (by rfl)
     focus
      intro s W hS
      have HSF := Lib.hid hS
      obtain ⟨_, e1, q0, q1, q2, q3, q4⟩ := at_T43 (Kd.C_below HA.out (HJ9.out.hB.trans (hS.base.mono HJ9.out.hB.size))) i (by omega) (by have := HN.out; omega)
      cases e1
      simp only [HXE.out, Int.toNat_natCast] at q0 q1 q2 q3 q4
      have HWB := Lib.hid (HJ9.out.hB.trans (hS.base.mono HJ9.out.hB.size))
      clear hS
      go_wp2_with (first | (go_at_call 88; refine (HX.out _ HWB.out).mono ?_; rintro _ W2 ⟨rfl, hd⟩; replace HSF := Lib.hid (HSF.out.below (drawn_below hd _)); clear hd) | (go_at_call 89; refine (HS.out _ HWB.out).mono ?_; rintro _ W2 ⟨rfl, hd⟩; replace HSF := Lib.hid (HSF.out.below hd); clear hd))
      exact Go.Det.AtEnd.mk HSF.out
    refine Go.Free.seqF_skip (Go.Free.seqF_nil ?_)
    rintro _ W ⟨hBW, g, rfl, hg1, hg2⟩
    have hJW := HJ9.out.below hBW
    have z0 := blk_cell hg2 0
    have z1 := blk_cell hg2 1
    have z2 := blk_cell hg2 2
    have z3 := blk_cell hg2 3
    have fz0 := blk_frozen hg2 0
    have fz1 := blk_frozen hg2 1
    have fz2 := blk_frozen hg2 2
    have fz3 := blk_frozen hg2 3
    simp only [List.getElem?_toArray, List.getElem?_cons_succ, List.getElem?_cons_zero] at z0 z1 z2 z3
    have HG2 := Lib.hid hg2
    have HJW := Lib.hid hJW
    clear hg2 hJW q0 q1 q2 q3 q4 q0'
    simp only [List.drop_succ_cons, List.drop_zero]
    go_upto_region 8 with (fail)
    have hG5 := blk_set (blk_set (blk_set (blk_set HG2.out 0 (.int .i64 X)) 1 (.int .u8 ch)) 2 (.int .i64 0)) 3 (.int .i64 f4)
    have hB5 := (((hBW.setCell (p := ⟨g, 0, none⟩) hg1 (.int .i64 X)).setCell (p := ⟨g, 1, none⟩) hg1 (.int .u8 ch)).setCell (p := ⟨g, 2, none⟩) hg1 (.int .i64 0)).setCell (p := ⟨g, 3, none⟩) hg1 (.int .i64 f4)
    simp only [List.setIfInBounds_toArray, List.set_cons_zero, List.set_cons_succ] at hG5
    generalize (((W.setCell ⟨g, 0, none⟩ (.int .i64 X)).setCell ⟨g, 1, none⟩ (.int .u8 ch)).setCell ⟨g, 2, none⟩ (.int .i64 0)).setCell ⟨g, 3, none⟩ (.int .i64 f4) = W5 at *
    have hJ5 := HJ9.out.below hB5
    obtain ⟨_, e1, q0, _⟩ := at_T43 (Kd.C_below HA.out hJ5.hB) i (by omega) (by have := HN.out; omega)
    cases e1
    simp only [HXE.out, Int.toNat_natCast] at q0
    have z2 := blk_cell hG5 2
    have fz2 := blk_frozen hG5 2
    simp only [List.getElem?_toArray, List.getElem?_cons_succ, List.getElem?_cons_zero] at z2
    have HB5 := Lib.hid hB5
    have HG5 := Lib.hid hG5
    have HJ5 := Lib.hid hJ5
    clear hB5 hG5 hJ5 hBW HG2 HJW z0 z1 z3 fz0 fz1 fz3
    obtain ⟨i0, hi, hz0, hz1, hz2⟩ := info_parts info57
    by_cases h4 : f0 = 4
    ·subst h4
     go_upto_region 10 with (fail)
     have hG6 := blk_set HG5.out 2 (.int .i64 2)
     have hB6 := HB5.out.setCell (p := ⟨g, 2, none⟩) hg1 (.int .i64 2)
     simp only [List.setIfInBounds_toArray, List.set_cons_zero, List.set_cons_succ] at hG6
     generalize W5.setCell ⟨g, 2, none⟩ (.int .i64 2) = W6 at *
     clear fz2 z2
     have hJ6 := HJ9.out.below hB6
     have z0 := blk_cell hG6 0
     have z1 := blk_cell hG6 1
     have z2 := blk_cell hG6 2
     have z3 := blk_cell hG6 3
     have x0 := blk_cell hJ6.hX 0
     have fx0 := blk_frozen hJ6.hX 0
     simp only [List.getElem?_toArray, List.getElem?_cons_succ, List.getElem?_cons_zero] at z0 z1 z2 z3 x0
     obtain ⟨Av, cv, hv⟩ := own_slice hJ6.own
     have HJ6 := Lib.hid hJ6
     have HSV := Lib.hid hv
     clear hJ6 hB6 hG6 hv
     go_wp2_with (at_builtin; refine wpList_append_own_at _ rfl _ _ 53 rfl B 57 i0 (.agg #[(.int .i64 0), (.int .u8 0), (.int .i64 0), (.int .i64 0)]) 4 32 Try.underlying53 hi hz0 hz1 hz2 rfl (by decide) _ _ _ rfl (HJ6.out.own.alloc _) _ 1 1 [.int .i64 X, .int .u8 ch, .int .i64 2, .int .i64 f4] rfl rfl ?e1a ?e2a ?e3a ?e4a ?e5a ?e6a)
     case e1a => exact cells_new W6 [.int .i64 X, .int .u8 ch, .int .i64 2, .int .i64 f4] 57
     case e2a => simp [Value.oneCell']
     case e3a => unfold maxLen; omega
     case e4a => omega
     case e5a => have := HJ6.out.le; simp; omega
     case e6a =>
      intro v' W7 hown' hgrow _ hat
      obtain ⟨A', c', rfl⟩ := own_slice hown'
      have hown2 : W7.ownsRow B 57 4 (.slice A' (sp.length + 1) c') (sp.length + 1) (flat57 (sp ++ [⟨X, ch, 2, f4⟩])) := by
       rw [flat57_snoc]
       exact hown'
      have hJ7 := HJ6.out.put (sp' := sp ++ [⟨X, ch, 2, f4⟩]) (by simp) hown2 hgrow
      have hne := own_apart HJ6.out.own HJ6.out.hX (by decide)
      have hx7 := blk_grown (blk_alloc HJ6.out.hX (.cells #[.int .i64 X, .int .u8 ch, .int .i64 2, .int .i64 f4] 57)) hgrow hne
      have fx7 := blk_frozen hx7 0
      have y7 := blk_cell hx7 0
      simp only [List.getElem?_toArray, List.getElem?_cons_succ, List.getElem?_cons_zero] at y7
      have HJ7 := Lib.hid hJ7
      clear hJ7 hown2 hown' hgrow hat hne hx7 z0 z1 z2 z3 x0 fx0
      go_wp2
      refine ⟨⟨i + 1, .slice A' (sp.length + 1) c', by simp, by omega, by omega, ⟨?_⟩⟩, by simp [intOf]; omega⟩
      rw [HSP.out, if_neg H3.out, show whatP 4 = 2 from rfl]
      exact HJ7.out
    ·have h4b : (f0 == 4) = false := beq_eq_false_iff_ne.2 h4
     have hwh : whatP f0 = 0 := by unfold whatP; rw [if_neg H3.out, if_neg h4]
     have HWH := Lib.hid hwh
     clear hwh h4
     go_upto_region 10 with (fail)
     have hG6 := HG5.out
     have hB6 := HB5.out
     generalize W5 = W6 at *
     clear fz2 z2
     have hJ6 := HJ9.out.below hB6
     have z0 := blk_cell hG6 0
     have z1 := blk_cell hG6 1
     have z2 := blk_cell hG6 2
     have z3 := blk_cell hG6 3
     have x0 := blk_cell hJ6.hX 0
     have fx0 := blk_frozen hJ6.hX 0
     simp only [List.getElem?_toArray, List.getElem?_cons_succ, List.getElem?_cons_zero] at z0 z1 z2 z3 x0
     obtain ⟨Av, cv, hv⟩ := own_slice hJ6.own
     have HJ6 := Lib.hid hJ6
     have HSV := Lib.hid hv
     clear hJ6 hB6 hG6 hv
     go_wp2_with (at_builtin; refine wpList_append_own_at _ rfl _ _ 53 rfl B 57 i0 (.agg #[(.int .i64 0), (.int .u8 0), (.int .i64 0), (.int .i64 0)]) 4 32 Try.underlying53 hi hz0 hz1 hz2 rfl (by decide) _ _ _ rfl (HJ6.out.own.alloc _) _ 1 1 [.int .i64 X, .int .u8 ch, .int .i64 0, .int .i64 f4] rfl rfl ?e1b ?e2b ?e3b ?e4b ?e5b ?e6b)
     case e1b => exact cells_new W6 [.int .i64 X, .int .u8 ch, .int .i64 0, .int .i64 f4] 57
     case e2b => simp [Value.oneCell']
     case e3b => unfold maxLen; omega
     case e4b => omega
     case e5b => have := HJ6.out.le; simp; omega
     case e6b =>
      intro v' W7 hown' hgrow _ hat
      obtain ⟨A', c', rfl⟩ := own_slice hown'
      have hown2 : W7.ownsRow B 57 4 (.slice A' (sp.length + 1) c') (sp.length + 1) (flat57 (sp ++ [⟨X, ch, 0, f4⟩])) := by
       rw [flat57_snoc]
       exact hown'
      have hJ7 := HJ6.out.put (sp' := sp ++ [⟨X, ch, 0, f4⟩]) (by simp) hown2 hgrow
      have hne := own_apart HJ6.out.own HJ6.out.hX (by decide)
      have hx7 := blk_grown (blk_alloc HJ6.out.hX (.cells #[.int .i64 X, .int .u8 ch, .int .i64 0, .int .i64 f4] 57)) hgrow hne
      have fx7 := blk_frozen hx7 0
      have y7 := blk_cell hx7 0
      simp only [List.getElem?_toArray, List.getElem?_cons_succ, List.getElem?_cons_zero] at y7
      have HJ7 := Lib.hid hJ7
      clear hJ7 hown2 hown' hgrow hat hne hx7 z0 z1 z2 z3 x0 fx0
      go_wp2
      refine ⟨⟨i + 1, .slice A' (sp.length + 1) c', by simp, by omega, by omega, ⟨?_⟩⟩, by simp [intOf]; omega⟩
      rw [HSP.out, if_neg H3.out, HWH.out]
      exact HJ7.out
  ·obtain rfl : i = b := by omega
   have hlt1 : ¬ (i : Int) < (i : Int) := by omega
   have HI9 := Lib.hid HI.out
   clear HI
   go_wp2_with fail
   refine (HCH.out _ HI9.out.hB).mono ?_
   rintro _ w4 ⟨rfl, hd4⟩
   have HI4 := Lib.hid (HI9.out.below (drawn_below hd4 _))
   clear hd4 hlt1
   cases hh : hyphP l1 (i : Int) with
   | true =>
    have hin : i < n := by
     have := HN.out
     simp only [hyphP, Bool.and_eq_true, decide_eq_true_eq] at hh
     omega
    have HHH := Lib.hid hh
    clear hh
    have x0 := blk_cell HI4.out.hX 0
    simp only [List.getElem?_toArray, List.getElem?_cons_succ, List.getElem?_cons_zero] at x0
    go_upto_region 12 with (fail)
    obtain ⟨wd, hwd⟩ : ∃ wd, w4.drew = wd := ⟨_, rfl⟩
    have hJd : SetJ w wd gx B (N + SL) 0 (spotsL l0 l1 a2 ((a : Int) - 1) i a (i - a)) v := by rw [← hwd]; exact HI4.out.below (below_drew1 (Below.refl _ _))
    have HJ9 := Lib.hid hJd
    clear hJd x0
    obtain ⟨X, hX⟩ : ∃ X, xL l1 a2 ((a : Int) - 1) i i = X := ⟨_, rfl⟩
    have hcx := fun W hW => HCX.out i W hai (Nat.le_refl _) hW
    simp only [hX] at hcx
    have HX := Lib.hid hcx
    have HXE := Lib.hid hX
    clear hcx hX
    obtain ⟨f4, hf4⟩ : ∃ f4, (rd_T43 l1 (i : Int)).f4 = f4 := ⟨_, rfl⟩
    have HF4 := Lib.hid hf4
    clear hf4
    have hdn : ∀ (m : Nat) (o : Obj), (wd.drewN m).alloc o = (wd.alloc o).drewN m := fun _ _ => rfl
    have HDN := Lib.hid hdn
    clear hdn
    have hbase : ∀ (b : Bool) (m : Nat) (o : Obj), Below wd.heap.size wd (bif b then (wd.alloc o).drewN m else wd.drewN m) := fun b m o => by
     cases b
     ·exact pw_below_drewN (Below.refl _ _) m
     ·exact pw_below_drewN ((Below.refl _ _).alloc (Nat.le_refl _) _) m
    have HBS := Lib.hid hbase
    clear hbase
    obtain ⟨sp, hsp⟩ : ∃ sp, spotsL l0 l1 a2 ((a : Int) - 1) i a (i - a) = sp := ⟨_, rfl⟩
    have hlen := spotsL_len l0 l1 a2 ((a : Int) - 1) i a (i - a)
    rw [hsp] at hlen
    have hj9 := HJ9.out
    rw [hsp] at hj9
    have HJA := Lib.hid hj9
    have HSPE := Lib.hid hsp
    clear hj9 hsp HJ9 HI4 HI9
    obtain ⟨ad, e1, _⟩ := at_T43 (Kd.C_below HA.out HJA.out.hB) i (by omega) (by have := HN.out; omega)
    cases e1
    refine Go.Mix.region_mix' (fun b W => ∃ m, W = (bif b then (wd.alloc (.cells #[.int .i64 X, .int .u8 45, .int .i64 1, .int .i64 f4] 57)).drewN m else wd.drewN m)) 14 15 [] (by kernel_rfl) (by kernel_rfl) (fun _ _ _ _ _ h => h) ⟨0, by rw [hwd]; rfl⟩ ?_
    clear hwd
    refine Go.Mix.seqE_nil ?_
    repeat
     apply Go.Mix.seqM_cons (by rfl) (by rfl)
     focus
      intro bb W hS
      have HSF := Lib.hid hS
      have hB : Below wd.heap.size wd W := by
       obtain ⟨m, hm⟩ := hS
       rw [hm]
       exact HBS.out bb m _
      have x0 := blk_cell (blk_below HJA.out.hX hB) 0
      simp only [List.getElem?_toArray, List.getElem?_cons_zero] at x0
      obtain ⟨_, e1, _, _, _, _, q4⟩ := at_T43 (Kd.C_below HA.out (HJA.out.hB.trans (hB.mono HJA.out.hB.size))) i (by omega) (by have := HN.out; omega)
      cases e1
      simp only [HF4.out, Int.toNat_natCast] at q4
      have HWB := Lib.hid (HJA.out.hB.trans (hB.mono HJA.out.hB.size))
      clear hS hB
      go_wp2_with (go_at_call 88; refine (HX.out _ HWB.out).mono ?_; rintro _ W2 ⟨rfl, ⟨⟨m2, rfl⟩⟩⟩; have HSF2 : Hid (∃ m, W.drewN m2 = (bif bb then (wd.alloc (.cells #[.int .i64 X, .int .u8 45, .int .i64 1, .int .i64 f4] 57)).drewN m else wd.drewN m)) := by (obtain ⟨m, hm⟩ := HSF.out; rw [hm]; cases bb <;> exact ⟨m + m2, by simp [World.drewN, Nat.add_assoc]⟩))
      first | exact Go.Det.AtEnd.mk HSF.out | exact Go.Det.AtEnd.mk HSF2.out
    apply Go.Mix.seqM_main (by rfl)
    focus
     intro W hS
     obtain ⟨m, rfl⟩ := hS
     go_wp2
     exact Go.Det.AtEnd.mk ⟨m, rfl⟩
    refine Go.Mix.seqM_nil ?_
    intro W hS
    obtain ⟨m, rfl⟩ := hS
    have hJ6 := HJA.out.below (pw_below_drewN (Below.refl wd.heap.size wd) m)
    simp only [decide_true, cond_true, Nat.reduceLT]
    rw [← HDN.out]
    have hs6 : (wd.drewN m).heap.size = wd.heap.size := rfl
    generalize wd.drewN m = W6 at *
    have HS6 := Lib.hid hs6
    clear hs6
    obtain ⟨i0, hi, hz0, hz1, hz2⟩ := info_parts info57
    have x0 := blk_cell hJ6.hX 0
    have fx0 := blk_frozen hJ6.hX 0
    simp only [List.getElem?_toArray, List.getElem?_cons_succ, List.getElem?_cons_zero] at x0
    have HJ6 := Lib.hid hJ6
    clear hJ6
    simp only [List.drop_succ_cons, List.drop_zero]
    go_wp2_with (at_builtin; refine wpList_append_own_at _ rfl _ _ 53 rfl B 57 i0 (.agg #[(.int .i64 0), (.int .u8 0), (.int .i64 0), (.int .i64 0)]) 4 32 Try.underlying53 hi hz0 hz1 hz2 rfl (by decide) _ _ _ rfl (HJ6.out.own.alloc _) _ 1 1 [.int .i64 X, .int .u8 45, .int .i64 1, .int .i64 f4] rfl rfl ?e1c ?e2c ?e3c ?e4c ?e5c ?e6c)
    case e1c =>
     have := cells_new W6 [.int .i64 X, .int .u8 45, .int .i64 1, .int .i64 f4] 57
     rw [HS6.out] at this
     exact this
    case e2c => simp [Value.oneCell']
    case e3c => unfold maxLen; omega
    case e4c => omega
    case e5c => have := HJ6.out.le; simp; omega
    case e6c =>
     intro v' W7 hown' hgrow _ hat
     obtain ⟨A', c', rfl⟩ := own_slice hown'
     have hown2 : W7.ownsRow B 57 4 (.slice A' (sp.length + 1) c') (sp.length + 1) (flat57 (sp ++ [⟨X, 45, 1, f4⟩])) := by
      rw [flat57_snoc]
      exact hown'
     have hJ7 := HJ6.out.put (sp' := sp ++ [⟨X, 45, 1, f4⟩]) (by simp) hown2 hgrow
     have hne := own_apart HJ6.out.own HJ6.out.hX (by decide)
     have hx7 := blk_grown (blk_alloc HJ6.out.hX (.cells #[.int .i64 X, .int .u8 45, .int .i64 1, .int .i64 f4] 57)) hgrow hne
     have fx7 := blk_frozen hx7 0
     have y7 := blk_cell hx7 0
     simp only [List.getElem?_toArray, List.getElem?_cons_succ, List.getElem?_cons_zero] at y7
     have HJ7 := Lib.hid hJ7
     clear hJ7 hown2 hown' hgrow hat hne hx7 x0 fx0
     go_upto_region 13 with (fail)
     have x2 := blk_cell HJ7.out.hX 2
     have fx2 := blk_frozen HJ7.out.hX 2
     simp only [List.getElem?_toArray, List.getElem?_cons_succ, List.getElem?_cons_zero] at x2
     generalize W7.setCell ⟨gx, 0, none⟩ (.slice A' (sp.length + 1) c') = W8 at *
     go_upto_region 14 with (fail)
     have hJ9 := HJ7.out.bits 4
     generalize W8.setCell ⟨gx, 2, none⟩ (.int .i64 4) = W9 at *
     clear x2 fx2 fx7 y7
     have hq1 : (lineC l0 l1 a2 ((a : Int) - 1) (i : Int)).f0 = r1 := congrArg (fun p => p.1) (Option.some.inj HR.out)
     have hq2 : (lineC l0 l1 a2 ((a : Int) - 1) (i : Int)).f1 = r2 := congrArg (fun p => p.2.1) (Option.some.inj HR.out)
     have hq3 : (lineC l0 l1 a2 ((a : Int) - 1) (i : Int)).f2 = r3 := congrArg (fun p => p.2.2) (Option.some.inj HR.out)
     simp only [lineC, Int.toNat_natCast, HNe.out, HYe.out, HZe.out, HSe.out] at hq1 hq2 hq3
     rw [show ((a : Int) - 1 + 1).toNat = a by omega, HSPE.out, HHH.out, if_pos rfl, show spotP l0 (rd_T43 l1 (i : Int)) (xL l1 a2 ((a : Int) - 1) (i : Int) i) = ⟨X, 45, 1, f4⟩ by
      have h3 : (rd_T43 l1 (i : Int)).f0 = 3 := by
       have := HHH.out
       simp only [hyphP, Bool.and_eq_true, beq_iff_eq] at this
       exact this.2
      unfold spotP showP whatP
      rw [if_pos h3, if_pos h3, HXE.out, HF4.out]] at hq1
     have RF1 := Lib.hid hq1.symm
     have RF2 := Lib.hid hq2.symm
     have RF3 := Lib.hid hq3.symm
     clear hq1 hq2 hq3
     have HZ := Lib.hid hJ9
     have x2 := blk_cell hJ9.hX 2
     have fx2 := blk_frozen hJ9.hX 2
     simp only [List.getElem?_toArray, List.getElem?_cons_succ, List.getElem?_cons_zero] at x2
     clear hJ9
     by_cases ho : a2 < N - Z
     ·by_cases hm : N + Y < a2
      ·exact absurd hm (by omega)
      ·have hbt : bitsO (decide (a2 < N - Z)) (!((i : Int) == (l1.length : Int)) && decide (N + Y < a2)) (hyphP l1 (i : Int)) = 5 := by
        rw [decide_eq_true ho, beq_eq_false_iff_ne.2 (by have := HN.out; omega), decide_eq_false hm, HHH.out]
        try rfl
       have HBT := Lib.hid hbt
       clear hbt
       go_upto_region 18 with (fail)
       have hJf := (HZ.out).bits 5
       generalize (W9.setCell ⟨gx, 2, none⟩ (.int .i64 5)) = WF at *
       have y0 := blk_cell hJf.hX 0
       have y1 := blk_cell hJf.hX 1
       have y2 := blk_cell hJf.hX 2
       have rr0 := blk_cell hJf.hR 0
       have rr1 := blk_cell hJf.hR 1
       have rr2 := blk_cell hJf.hR 2
       have s0 := blk_frozen hJf.hR 0
       have s1 := blk_frozen hJf.hR 1
       have s2 := blk_frozen hJf.hR 2
       simp only [List.getElem?_toArray, List.getElem?_cons_succ, List.getElem?_cons_zero] at y0 y1 y2 rr0 rr1 rr2
       have hF := SetJ.fin (by simp) hJf
       have HF := Lib.hid hF
       clear hF hJf
       go_wp2_with fail
       generalize ((WF.setCell ⟨w.heap.size, 0, none⟩ (.slice A' (sp.length + 1) c')).setCell ⟨w.heap.size, 1, none⟩ (.int .i64 (N + SL))).setCell ⟨w.heap.size, 2, none⟩ (.int .i64 5) = WE at *
       have z0 := blk_cell HF.out.1 0
       have z1 := blk_cell HF.out.1 1
       have z2 := blk_cell HF.out.1 2
       simp at z0 z1 z2
       refine bodyPost_ret (v := .agg #[.slice A' (sp.length + 1) c', .int .i64 (N + SL), .int .i64 5]) (by simp [results, Try.results65, go_sem, z0, z1, z2]) rfl ⟨.slice A' (sp.length + 1) c', ?_, ?_, HF.out.2.2⟩
       ·rw [RF2.out, RF3.out, HBT.out]
       ·rw [RF1.out]
        exact HF.out.2.1
     ·by_cases hm : N + Y < a2
      ·have hbt : bitsO (decide (a2 < N - Z)) (!((i : Int) == (l1.length : Int)) && decide (N + Y < a2)) (hyphP l1 (i : Int)) = 6 := by
        rw [decide_eq_false ho, beq_eq_false_iff_ne.2 (by have := HN.out; omega), decide_eq_true hm, HHH.out]
        try rfl
       have HBT := Lib.hid hbt
       clear hbt
       go_upto_region 18 with (fail)
       have hJf := (HZ.out).bits 6
       generalize (W9.setCell ⟨gx, 2, none⟩ (.int .i64 6)) = WF at *
       have y0 := blk_cell hJf.hX 0
       have y1 := blk_cell hJf.hX 1
       have y2 := blk_cell hJf.hX 2
       have rr0 := blk_cell hJf.hR 0
       have rr1 := blk_cell hJf.hR 1
       have rr2 := blk_cell hJf.hR 2
       have s0 := blk_frozen hJf.hR 0
       have s1 := blk_frozen hJf.hR 1
       have s2 := blk_frozen hJf.hR 2
       simp only [List.getElem?_toArray, List.getElem?_cons_succ, List.getElem?_cons_zero] at y0 y1 y2 rr0 rr1 rr2
       have hF := SetJ.fin (by simp) hJf
       have HF := Lib.hid hF
       clear hF hJf
       go_wp2_with fail
       generalize ((WF.setCell ⟨w.heap.size, 0, none⟩ (.slice A' (sp.length + 1) c')).setCell ⟨w.heap.size, 1, none⟩ (.int .i64 (N + SL))).setCell ⟨w.heap.size, 2, none⟩ (.int .i64 6) = WE at *
       have z0 := blk_cell HF.out.1 0
       have z1 := blk_cell HF.out.1 1
       have z2 := blk_cell HF.out.1 2
       simp at z0 z1 z2
       refine bodyPost_ret (v := .agg #[.slice A' (sp.length + 1) c', .int .i64 (N + SL), .int .i64 6]) (by simp [results, Try.results65, go_sem, z0, z1, z2]) rfl ⟨.slice A' (sp.length + 1) c', ?_, ?_, HF.out.2.2⟩
       ·rw [RF2.out, RF3.out, HBT.out]
       ·rw [RF1.out]
        exact HF.out.2.1
      ·have hbt : bitsO (decide (a2 < N - Z)) (!((i : Int) == (l1.length : Int)) && decide (N + Y < a2)) (hyphP l1 (i : Int)) = 4 := by
        rw [decide_eq_false ho, beq_eq_false_iff_ne.2 (by have := HN.out; omega), decide_eq_false hm, HHH.out]
        try rfl
       have HBT := Lib.hid hbt
       clear hbt
       go_upto_region 18 with (fail)
       have hJf := HZ.out
       generalize W9 = WF at *
       have y0 := blk_cell hJf.hX 0
       have y1 := blk_cell hJf.hX 1
       have y2 := blk_cell hJf.hX 2
       have rr0 := blk_cell hJf.hR 0
       have rr1 := blk_cell hJf.hR 1
       have rr2 := blk_cell hJf.hR 2
       have s0 := blk_frozen hJf.hR 0
       have s1 := blk_frozen hJf.hR 1
       have s2 := blk_frozen hJf.hR 2
       simp only [List.getElem?_toArray, List.getElem?_cons_succ, List.getElem?_cons_zero] at y0 y1 y2 rr0 rr1 rr2
       have hF := SetJ.fin (by simp) hJf
       have HF := Lib.hid hF
       clear hF hJf
       go_wp2_with fail
       generalize ((WF.setCell ⟨w.heap.size, 0, none⟩ (.slice A' (sp.length + 1) c')).setCell ⟨w.heap.size, 1, none⟩ (.int .i64 (N + SL))).setCell ⟨w.heap.size, 2, none⟩ (.int .i64 4) = WE at *
       have z0 := blk_cell HF.out.1 0
       have z1 := blk_cell HF.out.1 1
       have z2 := blk_cell HF.out.1 2
       simp at z0 z1 z2
       refine bodyPost_ret (v := .agg #[.slice A' (sp.length + 1) c', .int .i64 (N + SL), .int .i64 4]) (by simp [results, Try.results65, go_sem, z0, z1, z2]) rfl ⟨.slice A' (sp.length + 1) c', ?_, ?_, HF.out.2.2⟩
       ·rw [RF2.out, RF3.out, HBT.out]
       ·rw [RF1.out]
        exact HF.out.2.1
   | false =>
    have HHH := Lib.hid hh
    clear hh
    go_upto_region 14 with (fail)
    obtain ⟨sp, hsp⟩ : ∃ sp, spotsL l0 l1 a2 ((a : Int) - 1) i a (i - a) = sp := ⟨_, rfl⟩
    have hj4 := HI4.out
    rw [hsp] at hj4
    have HSPE := Lib.hid hsp
    obtain ⟨A', c', hv⟩ := own_slice hj4.own
    subst hv
    clear hsp HI9 HI4
    have hq1 : (lineC l0 l1 a2 ((a : Int) - 1) (i : Int)).f0 = r1 := congrArg (fun p => p.1) (Option.some.inj HR.out)
    have hq2 : (lineC l0 l1 a2 ((a : Int) - 1) (i : Int)).f1 = r2 := congrArg (fun p => p.2.1) (Option.some.inj HR.out)
    have hq3 : (lineC l0 l1 a2 ((a : Int) - 1) (i : Int)).f2 = r3 := congrArg (fun p => p.2.2) (Option.some.inj HR.out)
    simp only [lineC, Int.toNat_natCast, HNe.out, HYe.out, HZe.out, HSe.out] at hq1 hq2 hq3
    rw [show ((a : Int) - 1 + 1).toNat = a by omega, HSPE.out, HHH.out, if_neg (by simp), List.append_nil] at hq1
    have RF1 := Lib.hid hq1.symm
    have RF2 := Lib.hid hq2.symm
    have RF3 := Lib.hid hq3.symm
    clear hq1 hq2 hq3
    have HZ := Lib.hid hj4
    have x2 := blk_cell hj4.hX 2
    have fx2 := blk_frozen hj4.hX 2
    simp only [List.getElem?_toArray, List.getElem?_cons_succ, List.getElem?_cons_zero] at x2
    clear hj4
    by_cases ho : a2 < N - Z
    ·by_cases hl : i < n
     ·by_cases hm : N + Y < a2
      ·exact absurd hm (by omega)
      ·have hbt : bitsO (decide (a2 < N - Z)) (!((i : Int) == (l1.length : Int)) && decide (N + Y < a2)) (hyphP l1 (i : Int)) = 1 := by
        rw [decide_eq_true ho, beq_eq_false_iff_ne.2 (by have := HN.out; omega), decide_eq_false hm, HHH.out]
        try rfl
       have HBT := Lib.hid hbt
       clear hbt
       go_upto_region 18 with (fail)
       have hJf := (HZ.out).bits 1
       generalize (w4.setCell ⟨gx, 2, none⟩ (.int .i64 1)) = WF at *
       have y0 := blk_cell hJf.hX 0
       have y1 := blk_cell hJf.hX 1
       have y2 := blk_cell hJf.hX 2
       have rr0 := blk_cell hJf.hR 0
       have rr1 := blk_cell hJf.hR 1
       have rr2 := blk_cell hJf.hR 2
       have s0 := blk_frozen hJf.hR 0
       have s1 := blk_frozen hJf.hR 1
       have s2 := blk_frozen hJf.hR 2
       simp only [List.getElem?_toArray, List.getElem?_cons_succ, List.getElem?_cons_zero] at y0 y1 y2 rr0 rr1 rr2
       have hF := SetJ.fin (by simp) hJf
       have HF := Lib.hid hF
       clear hF hJf
       go_wp2_with fail
       generalize ((WF.setCell ⟨w.heap.size, 0, none⟩ (.slice A' sp.length c')).setCell ⟨w.heap.size, 1, none⟩ (.int .i64 (N + SL))).setCell ⟨w.heap.size, 2, none⟩ (.int .i64 1) = WE at *
       have z0 := blk_cell HF.out.1 0
       have z1 := blk_cell HF.out.1 1
       have z2 := blk_cell HF.out.1 2
       simp at z0 z1 z2
       refine bodyPost_ret (v := .agg #[.slice A' sp.length c', .int .i64 (N + SL), .int .i64 1]) (by simp [results, Try.results65, go_sem, z0, z1, z2]) rfl ⟨.slice A' sp.length c', ?_, ?_, HF.out.2.2⟩
       ·rw [RF2.out, RF3.out, HBT.out]
       ·rw [RF1.out]
        exact HF.out.2.1
     ·have hbt : bitsO (decide (a2 < N - Z)) (!((i : Int) == (l1.length : Int)) && decide (N + Y < a2)) (hyphP l1 (i : Int)) = 1 := by
       rw [decide_eq_true ho, beq_iff_eq.2 (by have := HN.out; omega), HHH.out]
       try rfl
      have HBT := Lib.hid hbt
      clear hbt
      go_upto_region 18 with (fail)
      have hJf := (HZ.out).bits 1
      generalize (w4.setCell ⟨gx, 2, none⟩ (.int .i64 1)) = WF at *
      have y0 := blk_cell hJf.hX 0
      have y1 := blk_cell hJf.hX 1
      have y2 := blk_cell hJf.hX 2
      have rr0 := blk_cell hJf.hR 0
      have rr1 := blk_cell hJf.hR 1
      have rr2 := blk_cell hJf.hR 2
      have s0 := blk_frozen hJf.hR 0
      have s1 := blk_frozen hJf.hR 1
      have s2 := blk_frozen hJf.hR 2
      simp only [List.getElem?_toArray, List.getElem?_cons_succ, List.getElem?_cons_zero] at y0 y1 y2 rr0 rr1 rr2
      have hF := SetJ.fin (by simp) hJf
      have HF := Lib.hid hF
      clear hF hJf
      go_wp2_with fail
      generalize ((WF.setCell ⟨w.heap.size, 0, none⟩ (.slice A' sp.length c')).setCell ⟨w.heap.size, 1, none⟩ (.int .i64 (N + SL))).setCell ⟨w.heap.size, 2, none⟩ (.int .i64 1) = WE at *
      have z0 := blk_cell HF.out.1 0
      have z1 := blk_cell HF.out.1 1
      have z2 := blk_cell HF.out.1 2
      simp at z0 z1 z2
      refine bodyPost_ret (v := .agg #[.slice A' sp.length c', .int .i64 (N + SL), .int .i64 1]) (by simp [results, Try.results65, go_sem, z0, z1, z2]) rfl ⟨.slice A' sp.length c', ?_, ?_, HF.out.2.2⟩
      ·rw [RF2.out, RF3.out, HBT.out]
      ·rw [RF1.out]
       exact HF.out.2.1
    ·by_cases hl : i < n
     ·by_cases hm : N + Y < a2
      ·have hbt : bitsO (decide (a2 < N - Z)) (!((i : Int) == (l1.length : Int)) && decide (N + Y < a2)) (hyphP l1 (i : Int)) = 2 := by
        rw [decide_eq_false ho, beq_eq_false_iff_ne.2 (by have := HN.out; omega), decide_eq_true hm, HHH.out]
        try rfl
       have HBT := Lib.hid hbt
       clear hbt
       go_upto_region 18 with (fail)
       have hJf := (HZ.out).bits 2
       generalize (w4.setCell ⟨gx, 2, none⟩ (.int .i64 2)) = WF at *
       have y0 := blk_cell hJf.hX 0
       have y1 := blk_cell hJf.hX 1
       have y2 := blk_cell hJf.hX 2
       have rr0 := blk_cell hJf.hR 0
       have rr1 := blk_cell hJf.hR 1
       have rr2 := blk_cell hJf.hR 2
       have s0 := blk_frozen hJf.hR 0
       have s1 := blk_frozen hJf.hR 1
       have s2 := blk_frozen hJf.hR 2
       simp only [List.getElem?_toArray, List.getElem?_cons_succ, List.getElem?_cons_zero] at y0 y1 y2 rr0 rr1 rr2
       have hF := SetJ.fin (by simp) hJf
       have HF := Lib.hid hF
       clear hF hJf
       go_wp2_with fail
       generalize ((WF.setCell ⟨w.heap.size, 0, none⟩ (.slice A' sp.length c')).setCell ⟨w.heap.size, 1, none⟩ (.int .i64 (N + SL))).setCell ⟨w.heap.size, 2, none⟩ (.int .i64 2) = WE at *
       have z0 := blk_cell HF.out.1 0
       have z1 := blk_cell HF.out.1 1
       have z2 := blk_cell HF.out.1 2
       simp at z0 z1 z2
       refine bodyPost_ret (v := .agg #[.slice A' sp.length c', .int .i64 (N + SL), .int .i64 2]) (by simp [results, Try.results65, go_sem, z0, z1, z2]) rfl ⟨.slice A' sp.length c', ?_, ?_, HF.out.2.2⟩
       ·rw [RF2.out, RF3.out, HBT.out]
       ·rw [RF1.out]
        exact HF.out.2.1
      ·have hbt : bitsO (decide (a2 < N - Z)) (!((i : Int) == (l1.length : Int)) && decide (N + Y < a2)) (hyphP l1 (i : Int)) = 0 := by
        rw [decide_eq_false ho, beq_eq_false_iff_ne.2 (by have := HN.out; omega), decide_eq_false hm, HHH.out]
        try rfl
       have HBT := Lib.hid hbt
       clear hbt
       go_upto_region 18 with (fail)
       have hJf := HZ.out
       generalize w4 = WF at *
       have y0 := blk_cell hJf.hX 0
       have y1 := blk_cell hJf.hX 1
       have y2 := blk_cell hJf.hX 2
       have rr0 := blk_cell hJf.hR 0
       have rr1 := blk_cell hJf.hR 1
       have rr2 := blk_cell hJf.hR 2
       have s0 := blk_frozen hJf.hR 0
       have s1 := blk_frozen hJf.hR 1
       have s2 := blk_frozen hJf.hR 2
       simp only [List.getElem?_toArray, List.getElem?_cons_succ, List.getElem?_cons_zero] at y0 y1 y2 rr0 rr1 rr2
       have hF := SetJ.fin (by simp) hJf
       have HF := Lib.hid hF
       clear hF hJf
       go_wp2_with fail
       generalize ((WF.setCell ⟨w.heap.size, 0, none⟩ (.slice A' sp.length c')).setCell ⟨w.heap.size, 1, none⟩ (.int .i64 (N + SL))).setCell ⟨w.heap.size, 2, none⟩ (.int .i64 0) = WE at *
       have z0 := blk_cell HF.out.1 0
       have z1 := blk_cell HF.out.1 1
       have z2 := blk_cell HF.out.1 2
       simp at z0 z1 z2
       refine bodyPost_ret (v := .agg #[.slice A' sp.length c', .int .i64 (N + SL), .int .i64 0]) (by simp [results, Try.results65, go_sem, z0, z1, z2]) rfl ⟨.slice A' sp.length c', ?_, ?_, HF.out.2.2⟩
       ·rw [RF2.out, RF3.out, HBT.out]
       ·rw [RF1.out]
        exact HF.out.2.1
     ·have hbt : bitsO (decide (a2 < N - Z)) (!((i : Int) == (l1.length : Int)) && decide (N + Y < a2)) (hyphP l1 (i : Int)) = 0 := by
       rw [decide_eq_false ho, beq_iff_eq.2 (by have := HN.out; omega), HHH.out]
       try rfl
      have HBT := Lib.hid hbt
      clear hbt
      go_upto_region 18 with (fail)
      have hJf := HZ.out
      generalize w4 = WF at *
      have y0 := blk_cell hJf.hX 0
      have y1 := blk_cell hJf.hX 1
      have y2 := blk_cell hJf.hX 2
      have rr0 := blk_cell hJf.hR 0
      have rr1 := blk_cell hJf.hR 1
      have rr2 := blk_cell hJf.hR 2
      have s0 := blk_frozen hJf.hR 0
      have s1 := blk_frozen hJf.hR 1
      have s2 := blk_frozen hJf.hR 2
      simp only [List.getElem?_toArray, List.getElem?_cons_succ, List.getElem?_cons_zero] at y0 y1 y2 rr0 rr1 rr2
      have hF := SetJ.fin (by simp) hJf
      have HF := Lib.hid hF
      clear hF hJf
      go_wp2_with fail
      generalize ((WF.setCell ⟨w.heap.size, 0, none⟩ (.slice A' sp.length c')).setCell ⟨w.heap.size, 1, none⟩ (.int .i64 (N + SL))).setCell ⟨w.heap.size, 2, none⟩ (.int .i64 0) = WE at *
      have z0 := blk_cell HF.out.1 0
      have z1 := blk_cell HF.out.1 1
      have z2 := blk_cell HF.out.1 2
      simp at z0 z1 z2
      refine bodyPost_ret (v := .agg #[.slice A' sp.length c', .int .i64 (N + SL), .int .i64 0]) (by simp [results, Try.results65, go_sem, z0, z1, z2]) rfl ⟨.slice A' sp.length c', ?_, ?_, HF.out.2.2⟩
      ·rw [RF2.out, RF3.out, HBT.out]
      ·rw [RF1.out]
       exact HF.out.2.1
end Go.Proofs.Ytbddfnmhhmkfkaa.Pr
