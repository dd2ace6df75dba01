/- Texts of this seat, one behind the other. -/
import Derived.Test.YthcmfjpheanphaaXNormForms11
set_option linter.unusedVariables false
set_option linter.unusedSimpArgs false
set_option maxHeartbeats 16000000
set_option maxRecDepth 100000
namespace Go.Proofs.Ythcmfjpheanphaa.Pr
open Go.RowKit Go.Maps Go.Proofs.Ythcmfjpheanphaa.Pure Go.Proofs.YthcmfjpheanphaaW.PrintWords
attribute [local go_sem] Oper.semAt_some
def StepQ (q : Int × Int) (w : World) (e : Ending) (w' : World) : Prop := e = .returned (.tuple #[.int .i64 q.1,.int .i64 q.2]) ∧ Below w.heap.size w w'
theorem zfN {W : World} {g : Nat} {t : TypeId} {a b c d : Value} (h : W.heap[g]? = some (.cells #[a,b,c,d] t (0,0))) : W.cell? ⟨g,0,none⟩ = some a ∧ W.cell? ⟨g,1,none⟩ = some b ∧ W.cell? ⟨g,2,none⟩ = some c ∧ W.cell? ⟨g,3,none⟩ = some d :=
 ⟨by have := zaB h 0;simpa using this,by have := zaB h 1;simpa using this,by have := zaB h 2;simpa using this,by have := zaB h 3;simpa using this⟩
theorem zqU {W : World} {g : Nat} {t : TypeId} {a b c d e f : Value} (h : W.heap[g]? = some (.cells #[a,b,c,d,e,f] t (0,0))) : W.cell? ⟨g,0,none⟩ = some a ∧ W.cell? ⟨g,1,none⟩ = some b :=
 ⟨by have := zaB h 0;simpa using this,by have := zaB h 1;simpa using this⟩
set_option pp.maxSteps 3000 in
theorem zzV (A0 : Option Addr) (c0 : Nat) (t : List S56) (A1 : Option Addr) (c1 : Nat) (r : List S159) (f0 f1 : Int) (f2 : ByteArray) (f3 : Int) (w : World) (hr1 : Kd.C k159 w A1 r.length r) (hc1 : r.length ≤ c1) (h0 : 0 < r.length) (hr : r.length ≤ 800000)
  (hk : (topR r).f1.size ≤ 800000) (hx : f2.size ≤ 1000000) :
  Calls Try.prog 96 #[.slice A0 t.length c0,.slice A1 r.length c1,.agg #[.int .i64 f0,.int .u8 f1,.string f2,.int .i64 f3]] w (StepQ (zeS (zeZ r f1) ⟨t,r⟩ ⟨f0,f1,f2,f3⟩) w) := by
 obtain ⟨n,hn⟩ : ∃ n,r.length = n + 1 := ⟨r.length - 1,by omega⟩
 have hb1 : Below w.heap.size w (w.alloc (.cells #[.int .i64 f0,.int .u8 f1,.string f2,.int .i64 f3] 47)) := (Below.refl _ w).alloc (Nat.le_refl _) _
 obtain ⟨ad,rfl,q0,q1,q2,q3,q4,q5⟩ := znZ (Kd.C_below hr1 hb1) (n : Int) (by omega) (by omega)
 simp only [Int.toNat_natCast] at q0 q1 q2 q3 q4 q5
 have et : topR r = zaC r (n : Int) := by unfold topR;rw [hn,Nat.add_sub_cancel]
 rw [← et] at q0 q1 q2 q3 q4 q5
 have hnl : (n : Int) < (r.length : Int) := by omega
 have HA := Lib.hid hr1
 obtain ⟨q,hq⟩ : ∃ q,zeS (zeZ r f1) ⟨t,r⟩ ⟨f0,f1,f2,f3⟩ = q := ⟨_,rfl⟩
 rw [hq]
 have HQ := Lib.hid hq
 obtain ⟨y,hy⟩ : ∃ y,topR r = y := ⟨_,rfl⟩
 rw [hy] at q0 q1 q2 q3 q4 q5
 have HY := Lib.hid hy
 obtain ⟨y0,y1,y2,y3,y4,y5⟩ := y
 simp only at q0 q1 q2 q3 q4 q5
 clear hq hr1 et hb1 hy
 have hW2 : Below w.heap.size w ((w.alloc (.cells #[.int .i64 f0,.int .u8 f1,.string f2,.int .i64 f3] 47)).alloc (.cells #[.int .u8 y0,.string y1,.int .i64 y2,.int .i64 y3,.int .i64 y4,.string y5] 159)) :=
  ((Below.refl _ w).alloc (Nat.le_refl _) _).alloc (by simp) _
 have HX := Lib.hid (zcE (zbW w (.cells #[.int .i64 f0,.int .u8 f1,.string f2,.int .i64 f3] 47)) (.cells #[.int .u8 y0,.string y1,.int .i64 y2,.int .i64 y3,.int .i64 y4,.string y5] 159))
 have HYY := zbW (w.alloc (.cells #[.int .i64 f0,.int .u8 f1,.string f2,.int .i64 f3] 47)) (.cells #[.int .u8 y0,.string y1,.int .i64 y2,.int .i64 y3,.int .i64 y4,.string y5] 159)
 rw [World.size_alloc] at HYY
 have hw1 : (r.length : Int) - 1 = (n : Int) := by omega
 have hw2 : wrap64 ((r.length : Int) - 1) = (n : Int) := by rw [hn];exact zqF n (by omega)
 have HN := Lib.hid hn
 clear hn
 go_enter Try.func96,Try.ntmps96
 go_upto_region 2 with (fail)
 generalize (w.alloc (.cells #[.int .i64 f0,.int .u8 f1,.string f2,.int .i64 f3] 47)).alloc (.cells #[.int .u8 y0,.string y1,.int .i64 y2,.int .i64 y3,.int .i64 y4,.string y5] 159) = W2 at *
 have HB2 := Lib.hid hW2
 have HYZ := Lib.hid HYY
 clear q0 q1 q2 q3 q4 q5 hW2 HYY hw1 hw2
 have hn := HN.out
 have HTX := Lib.hid (fun W (hb : Below w.heap.size w W) => stylusref04_Texts.calls 900000 (some ad) c1 r (zfQ r) W (Kd.C_below HA.out hb) hc1 (zrK r (by omega) h0 (by omega) 900000 (by omega)))
 have HLA := Lib.hid (fun W (hb : Below w.heap.size w W) => stylusref04_last.calls 900000 (some ad) c1 r ⟨#[110]⟩ (lastP nB r) W (Kd.C_below HA.out hb) hc1 (zuI nB (by decide) r (by omega) h0 900000 (by omega)))
 have HOP := Lib.hid (fun W (hb : Below w.heap.size w W) => stylusref04_opens.calls 2600000 (some ad) c1 r f1 (zeZ r f1) W (Kd.C_below HA.out hb) hc1 (opens_f r (by omega) h0 (by omega) f1 2600000 (by omega)))
 have HMA := Lib.hid (fun W (hb : Below w.heap.size w W) => stylusref04_many.calls 900000 (some ad) c1 r 108 (ziY 108 r) W (Kd.C_below HA.out hb) hc1 (zzF 108 r (by omega) h0 900000 (by omega)))
 have HIN := Lib.hid (fun W => stylusref04_in.calls 100 y0 ⟨#[108,116,114]⟩ (inB y0 ltrB) W (in_f _ ltrB (by decide) 100 (by show 3 + 1 ≤ 100;omega)))
 clear hn
 have hx2 := zfN HX.out
 obtain ⟨x0,x1,x2,x3⟩ := hx2
 by_cases h1 : f0 = 1
 ·have e1 : (f0 == 1) = true := beq_iff_eq.2 h1
  cases htx : zfQ r with
  | false =>
   rw [htx] at HTX
   go_wp2_with (go_at_call 108;(with_reducible refine (HTX.out _ HB2.out).mono ?_);rintro e W3 ⟨rfl,hb3⟩)
   have HB3 := Lib.hid (HB2.out.trans (hb3.mono HB2.out.size))
   have HX3 := Lib.hid (zaG HX.out hb3)
   have HQ1 : q = if zdR f2 f2.size 0 < f2.size then (wrap64 (f3 + zdR f2 f2.size 0),2) else (0,0) := by
    rw [← HQ.out]
    unfold zeS
    rw [if_pos h1]
    show (if zfQ r = true then _ else _) = _
    rw [htx,if_neg (by decide)]
   have HQ2 := Lib.hid HQ1
   clear HQ1 hb3 x0 x1 x2 x3 HB2 HX HYZ HTX HLA HOP HMA HIN HQ HA HY
   go_loopw [9] (fun v wr => ∃ j : Nat,j ≤ f2.size ∧ v = .int .i64 j ∧ Below W3.heap.size W3 wr ∧ zdR f2 f2.size 0 = zdR f2 (f2.size - j) j) (fun v _ => f2.size - (intOf v).toNat)
   case atStart => exact ⟨0,Nat.zero_le _,rfl,Below.refl _ _,rfl⟩
   case round =>
    obtain ⟨j,hj,rfl,hB,hbl⟩ := hrel
    have HBL := Lib.hid hbl
    have HBB := Lib.hid (HB3.out.trans (hB.mono HB3.out.size))
    have HXr := Lib.hid (zaG HX3.out hB)
    obtain ⟨x0,x1,x2,x3⟩ := zfN HXr.out
    have HB := Lib.hid hB
    clear hbl hB
    by_cases hlt : j < f2.size
    ·have hlt1 : (j : Int) < (f2.size : Int) := by omega
     have hbr := zfZ f2 j
     have hst : zdR f2 (f2.size - j) j = if zpP (bt f2 j) = true then zdR f2 (f2.size - (j + 1)) (j + 1) else j := by
      rw [show f2.size - j = (f2.size - (j + 1)) + 1 from by omega]
      simp only [zdR]
      rw [if_pos hlt]
     have hw := fun W => stylusref01_White.calls (bt f2 j) (zdA (bt f2 j)) W (is_at (bt f2 j) hbr.1 hbr.2 20 (by omega)).2.1
     have HST := Lib.hid hst
     obtain ⟨b,hbw⟩ : ∃ b,zdA (bt f2 j) = b := ⟨_,rfl⟩
     rw [hbw] at hw
     have HBW := Lib.hid (show zpP (bt f2 j) = b from hbw)
     have HW := Lib.hid hw
     clear hst hw hbw
     have hx5 : ∀ h : j < f2.size,((f2[j]'h).toNat : Int) = bt f2 j := fun h => by simpa using zfI f2 (j : Int) (by simpa using h)
     generalize bt f2 j = ch at *
     cases b
     ·go_wp2_with (go_at_call 84;(with_reducible refine (HW.out _).mono ?_);rintro e W4 ⟨rfl,⟨⟨nd,rfl⟩⟩⟩;have x3' := zaB (zaG HXr.out (zaM (Below.refl _ _) nd)) 3;simp only [gzz] at x3')
      go_ret2
      have hres : zdR f2 f2.size 0 = j := by rw [HBL.out,HST.out,HBW.out];rfl
      refine ⟨?_,zaM HBB.out nd⟩
      rw [HQ2.out,hres,if_pos hlt]
      rfl
     ·go_wp2_with (go_at_call 84;(with_reducible refine (HW.out _).mono ?_);rintro e W4 ⟨rfl,⟨⟨nd,rfl⟩⟩⟩)
      go_roundw
      case rel => exact ⟨j + 1,by omega,by go_num,zaM HB.out nd,by rw [HBL.out,HST.out,HBW.out];rfl⟩
      case measure => simp [intOf];omega
    ·obtain rfl : j = f2.size := by omega
     go_wp2
     go_ret2
     have hres : ¬ zdR f2 f2.size 0 < f2.size := by rw [HBL.out,Nat.sub_self];simp [zdR]
     refine ⟨?_,HBB.out⟩
     rw [HQ2.out,if_neg hres]
     rfl
  | true =>
   go_wp2_with (first | (go_at_call 108;(with_reducible refine (HTX.out _ HB2.out).mono ?_);rintro e W3 ⟨rfl,hb3⟩;have HB3 := Lib.hid (HB2.out.trans (hb3.mono HB2.out.size));have HX3 := Lib.hid (zaG HX.out hb3);clear hb3) | (go_at_call 137;(with_reducible refine (HLA.out _ HB3.out).mono ?_);rintro e W4 ⟨rfl,⟨⟨nd,rfl⟩⟩⟩;have HB4 := Lib.hid (zaM HB3.out nd);have HX4 := Lib.hid (zaG HX3.out (zaM (Below.refl _ _) nd))))
   obtain ⟨W5,hW5⟩ : ∃ W5,(W3.drewN nd).drew = W5 := ⟨_,rfl⟩
   have hb5 : Below w.heap.size w W5 := by rw [← hW5];exact zaJ HB4.out
   have hx5 : W5.heap[w.heap.size]? = some (.cells #[.int .i64 f0,.int .u8 f1,.string f2,.int .i64 f3] 47 (0,0)) := by rw [← hW5];exact HX4.out
   have HB5 := Lib.hid hb5
   have HX5 := Lib.hid hx5
   have hQ1 : zeS (zeZ r f1) ⟨t,r⟩ ⟨f0,f1,f2,f3⟩ = if 2000 ≤ t.length then (f3,4) else if 0 < lastP nB r then (if 60 < wrap64 (((zaC r (lastP nB r)).f5.size : Int) + f2.size) then (f3,4) else (0,0)) else (0,0) := by
    unfold zeS
    rw [if_pos h1]
    show (if zfQ r = true then _ else _) = _
    rw [htx,if_pos rfl]
   rw [HQ.out] at hQ1
   have HQ1 := Lib.hid hQ1
   have hlr := zqH nB r
   obtain ⟨L,hL⟩ : ∃ L,lastP nB r = L := ⟨_,rfl⟩
   rw [hL] at HQ1 hlr
   simp only [hL]
   clear hb5 hx5 hQ1 x0 x1 x2 x3 hL HB2 HX HYZ HTX HLA HOP HMA HIN HQ HY HB4 HX4 HB3 HX3
   by_cases g1 : 2000 ≤ t.length
   ·have g1' : 2000 ≤ (t.length : Int) := by omega
    refine Go.Det.region_all (fun W => W = W5) (by kernel_rfl) (by kernel_rfl) hW5 ?_
    repeat
     apply Go.Det.seqW_cons
     focus
      intro W hS
      obtain rfl : W = W5 := hS
      obtain ⟨x0,x1,x2,x3⟩ := zfN HX5.out
      skip
      go_wp2
      exact Go.Det.AtEnd.mk rfl
    refine Go.Det.seqW_nil ?_
    intro W hS
    obtain rfl : W = W5 := hS
    obtain ⟨x0,x1,x2,x3⟩ := zfN HX5.out
    simp only [Exit.then]
    go_wp2
    go_ret2
    exact ⟨by rw [HQ1.out,if_pos g1];rfl,HB5.out⟩
   ·rw [if_neg g1] at HQ1
    have d1 : (t.length : Int) < 2000 := by omega
    have d1' : t.length < 2000 := by omega
    clear g1
    by_cases g2 : 0 < L
    ·obtain ⟨ad2,e2,p0,p1,p2,p3,p4,p5⟩ := znZ (Kd.C_below HA.out HB5.out) L (by omega) (by omega)
     obtain rfl := Option.some.inj e2
     clear e2
     have g4 : L < (r.length : Int) := by omega
     have g5 : 0 ≤ L := by omega
     obtain ⟨ln,rfl⟩ : ∃ ln : Nat,L = (ln : Int) := ⟨L.toNat,by omega⟩
     rw [if_pos g2] at HQ1
     have d2 : 0 < (ln : Int) := g2
     have d2' : 0 < ln := by omega
     clear g2 g5
     simp only [Int.toNat_natCast] at p0 p1 p2 p3 p4 p5
     obtain ⟨z,hz⟩ : ∃ z,(zaC r (ln : Int)).f5 = z := ⟨_,rfl⟩
     rw [hz] at p5 HQ1
     have HP := Lib.hid p5
     clear p0 p1 p2 p3 p4 p5 hz hlr
     by_cases g3 : 60 < wrap64 ((z.size : Int) + f2.size)
     ·rw [if_pos g3] at HQ1
      have d3 := decide_eq_true (show 60 < wrap64 ((z.size : Int) + f2.size) from g3)
      clear g3
      refine Go.Det.region_all (fun W => W = W5) (by kernel_rfl) (by kernel_rfl) hW5 ?_
      repeat
       apply Go.Det.seqW_cons
       focus
        intro W hS
        obtain rfl : W = W5 := hS
        obtain ⟨x0,x1,x2,x3⟩ := zfN HX5.out
        have p5 := HP.out
        go_wp2
        exact Go.Det.AtEnd.mk rfl
      refine Go.Det.seqW_nil ?_
      intro W hS
      obtain rfl : W = W5 := hS
      obtain ⟨x0,x1,x2,x3⟩ := zfN HX5.out
      simp only [Exit.then]
      go_wp2
      go_ret2
      exact ⟨by rw [HQ1.out];rfl,HB5.out⟩
     ·rw [if_neg g3] at HQ1
      have d3 : wrap64 ((z.size : Int) + f2.size) ≤ 60 := Int.not_lt.mp g3
      clear g3
      refine Go.Det.region_all (fun W => W = W5) (by kernel_rfl) (by kernel_rfl) hW5 ?_
      repeat
       apply Go.Det.seqW_cons
       focus
        intro W hS
        obtain rfl : W = W5 := hS
        obtain ⟨x0,x1,x2,x3⟩ := zfN HX5.out
        have p5 := HP.out
        go_wp2
        exact Go.Det.AtEnd.mk rfl
      refine Go.Det.seqW_nil ?_
      intro W hS
      obtain rfl : W = W5 := hS
      obtain ⟨x0,x1,x2,x3⟩ := zfN HX5.out
      simp only [Exit.then]
      go_wp2
      go_ret2
      exact ⟨by rw [HQ1.out];rfl,HB5.out⟩
    ·rw [if_neg g2] at HQ1
     have d2 : L ≤ 0 := by omega
     clear g2 hlr
     refine Go.Det.region_all (fun W => W = W5) (by kernel_rfl) (by kernel_rfl) hW5 ?_
     repeat
      apply Go.Det.seqW_cons
      focus
       intro W hS
       obtain rfl : W = W5 := hS
       obtain ⟨x0,x1,x2,x3⟩ := zfN HX5.out
       skip
       go_wp2
       exact Go.Det.AtEnd.mk rfl
     refine Go.Det.seqW_nil ?_
     intro W hS
     obtain rfl : W = W5 := hS
     obtain ⟨x0,x1,x2,x3⟩ := zfN HX5.out
     simp only [Exit.then]
     go_wp2
     go_ret2
     exact ⟨by rw [HQ1.out];rfl,HB5.out⟩
 ·have e1 : (f0 == 1) = false := beq_eq_false_iff_ne.2 h1
  by_cases h2 : f0 = 2
  ·have e2 : (f0 == 2) = true := beq_iff_eq.2 h2
   have hQ1 : zeS (zeZ r f1) ⟨t,r⟩ ⟨f0,f1,f2,f3⟩ = if zeZ r f1 = true then (if 32 < r.length ∨ (f1 = 108 ∧ 8 ≤ ziY 108 r) then (f3,5) else if 2000 ≤ t.length then (f3,4) else (0,0)) else (f3,2) := by
    unfold zeS
    rw [if_neg h1,if_pos h2]
   rw [HQ.out] at hQ1
   have HQ1 := Lib.hid hQ1
   clear hQ1 h1
   cases hop : zeZ r f1 with
   | false =>
    rw [hop,if_neg (by decide)] at HQ1
    rw [hop] at HOP
    clear hop HQ HYZ HTX HLA HMA HIN HY
    go_wp2_with (go_at_call 138;(with_reducible refine (HOP.out _ HB2.out).mono ?_);rintro e W3 ⟨rfl,hb3⟩;have HB3 := Lib.hid (HB2.out.trans (hb3.mono HB2.out.size));have HX3 := Lib.hid (zaG HX.out hb3);have x3' := zaB HX3.out 3;simp only [gzz] at x3';clear hb3)
    go_ret2
    exact ⟨by rw [HQ1.out];rfl,HB3.out⟩
   | true =>
    rw [hop,if_pos rfl] at HQ1
    rw [hop] at HOP
    clear hop HQ HYZ HTX HLA HIN HY
    obtain ⟨M,hM⟩ : ∃ M,ziY 108 r = M := ⟨_,rfl⟩
    rw [hM] at HQ1 HMA
    clear hM
    by_cases g1 : 32 < r.length
    ·have d1 : 32 < (r.length : Int) := by omega
     rw [if_pos (.inl g1)] at HQ1
     go_wp2_with (go_at_call 138;(with_reducible refine (HOP.out _ HB2.out).mono ?_);rintro e W3 ⟨rfl,hb3⟩;have HB3 := Lib.hid (HB2.out.trans (hb3.mono HB2.out.size));have HX3 := Lib.hid (zaG HX.out hb3);have x3' := zaB HX3.out 3;have x1' := zaB HX3.out 1;simp only [gzz] at x3' x1';clear hb3)
     go_ret2
     exact ⟨by rw [HQ1.out];rfl,HB3.out⟩
    ·have d1 : (r.length : Int) ≤ 32 := by omega
     have d1' : r.length ≤ 32 := by omega
     clear hnl
     by_cases g3 : f1 = 108
     ·subst g3
      by_cases g4 : 8 ≤ M
      ·rw [if_pos (.inr ⟨rfl,g4⟩)] at HQ1
       have d4 : 8 ≤ (M : Int) := by omega
       clear g1
       go_wp2_with (first | (go_at_call 138;(with_reducible refine (HOP.out _ HB2.out).mono ?_);rintro e W3 ⟨rfl,hb3⟩;have HB3 := Lib.hid (HB2.out.trans (hb3.mono HB2.out.size));have HX3 := Lib.hid (zaG HX.out hb3);have x3' := zaB HX3.out 3;have x1' := zaB HX3.out 1;simp only [gzz] at x3' x1';clear hb3) | (go_at_call 139;(with_reducible refine (HMA.out _ HB3.out).mono ?_);rintro e W4 ⟨rfl,⟨⟨nd,rfl⟩⟩⟩;have HB4 := Lib.hid (zaM HB3.out nd);have x3'' := zaB (zaG HX3.out (zaM (Below.refl _ _) nd)) 3;simp only [gzz] at x3''))
       go_ret2
       exact ⟨by rw [HQ1.out];rfl,HB4.out⟩
      ·rw [if_neg (fun h => h.elim g1 fun h => g4 h.2)] at HQ1
       have d4 : (M : Int) < 8 := by omega
       have d4' : M < 8 := by omega
       clear g1 g4
       by_cases g2 : 2000 ≤ t.length
       ·have d2 : 2000 ≤ (t.length : Int) := by omega
        rw [if_pos g2] at HQ1
        go_wp2_with (first | (go_at_call 138;(with_reducible refine (HOP.out _ HB2.out).mono ?_);rintro e W3 ⟨rfl,hb3⟩;have HB3 := Lib.hid (HB2.out.trans (hb3.mono HB2.out.size));have HX3 := Lib.hid (zaG HX.out hb3);have x3' := zaB HX3.out 3;have x1' := zaB HX3.out 1;simp only [gzz] at x3' x1';clear hb3) | (go_at_call 139;(with_reducible refine (HMA.out _ HB3.out).mono ?_);rintro e W4 ⟨rfl,⟨⟨nd,rfl⟩⟩⟩;have HB4 := Lib.hid (zaM HB3.out nd);have x3'' := zaB (zaG HX3.out (zaM (Below.refl _ _) nd)) 3;simp only [gzz] at x3''))
        go_ret2
        exact ⟨by rw [HQ1.out];rfl,HB4.out⟩
       ·have d2 : (t.length : Int) < 2000 := by omega
        have d2' : t.length < 2000 := by omega
        rw [if_neg g2] at HQ1
        clear g2
        go_wp2_with (first | (go_at_call 138;(with_reducible refine (HOP.out _ HB2.out).mono ?_);rintro e W3 ⟨rfl,hb3⟩;have HB3 := Lib.hid (HB2.out.trans (hb3.mono HB2.out.size));have HX3 := Lib.hid (zaG HX.out hb3);have x3' := zaB HX3.out 3;have x1' := zaB HX3.out 1;simp only [gzz] at x3' x1';clear hb3) | (go_at_call 139;(with_reducible refine (HMA.out _ HB3.out).mono ?_);rintro e W4 ⟨rfl,⟨⟨nd,rfl⟩⟩⟩;have HB4 := Lib.hid (zaM HB3.out nd);have x3'' := zaB (zaG HX3.out (zaM (Below.refl _ _) nd)) 3;simp only [gzz] at x3''))
        go_ret2
        exact ⟨by rw [HQ1.out];rfl,HB4.out⟩
     ·have d3 : (f1 == 108) = false := beq_eq_false_iff_ne.2 g3
      rw [if_neg (fun h => h.elim g1 fun h => g3 h.1)] at HQ1
      clear g1 g3
      by_cases g2 : 2000 ≤ t.length
      ·have d2 : 2000 ≤ (t.length : Int) := by omega
       rw [if_pos g2] at HQ1
       go_wp2_with (go_at_call 138;(with_reducible refine (HOP.out _ HB2.out).mono ?_);rintro e W3 ⟨rfl,hb3⟩;have HB3 := Lib.hid (HB2.out.trans (hb3.mono HB2.out.size));have HX3 := Lib.hid (zaG HX.out hb3);have x3' := zaB HX3.out 3;have x1' := zaB HX3.out 1;simp only [gzz] at x3' x1';clear hb3)
       go_ret2
       exact ⟨by rw [HQ1.out];rfl,HB3.out⟩
      ·have d2 : (t.length : Int) < 2000 := by omega
       have d2' : t.length < 2000 := by omega
       rw [if_neg g2] at HQ1
       clear g2
       go_wp2_with (go_at_call 138;(with_reducible refine (HOP.out _ HB2.out).mono ?_);rintro e W3 ⟨rfl,hb3⟩;have HB3 := Lib.hid (HB2.out.trans (hb3.mono HB2.out.size));have HX3 := Lib.hid (zaG HX.out hb3);have x3' := zaB HX3.out 3;have x1' := zaB HX3.out 1;simp only [gzz] at x3' x1';clear hb3)
       go_ret2
       exact ⟨by rw [HQ1.out];rfl,HB3.out⟩
  ·have e2 : (f0 == 2) = false := beq_eq_false_iff_ne.2 h2
   have hQ1 : zeS (zeZ r f1) ⟨t,r⟩ ⟨f0,f1,f2,f3⟩ = if r.length = 1 ∨ (inB y0 ltrB = true ∧ y1.size = 0) then (f3,2) else if y0 = 114 then (if 0 < (zaC r ((r.length - 2 : Nat) : Int)).f4 then (if (zaC r ((r.length - 2 : Nat) : Int)).f4 = y1.size then (0,0) else (f3,2)) else (0,0)) else (0,0) := by
    unfold zeS
    rw [if_neg h1,if_neg h2]
    simp only [HY.out]
   rw [HQ.out] at hQ1
   have HQ1 := Lib.hid hQ1
   obtain ⟨y0c,y1c⟩ := zqU HYZ.out
   clear hQ1 h1 h2 HQ HTX HLA HMA HOP HY
   by_cases g1 : r.length = 1
   ·have d1 : ((r.length : Int) == 1) = true := beq_iff_eq.2 (by omega)
    rw [if_pos (.inl g1)] at HQ1
    clear g1
    go_wp2
    go_ret2
    exact ⟨by rw [HQ1.out];rfl,HB2.out⟩
   ·have d1 : ((r.length : Int) == 1) = false := beq_eq_false_iff_ne.2 (by omega)
    obtain ⟨m,hm⟩ : ∃ m,r.length = m + 2 := ⟨r.length - 2,by omega⟩
    obtain ⟨b,hb⟩ : ∃ b,inB y0 ltrB = b := ⟨_,rfl⟩
    rw [hb] at HQ1 HIN
    clear hb
    by_cases gB : b = true ∧ y1.size = 0
    ·obtain ⟨rfl,g2⟩ := gB
     rw [if_pos (.inr ⟨rfl,g2⟩)] at HQ1
     have d2 : (y1.toList == ([] : List UInt8)) = true := by rw [ziM];exact decide_eq_true g2
     have d2' : y1.toList.isEmpty = true := by rw [zeR];exact decide_eq_true g2
     have d2'' : y1.toList = [] := by simpa using d2'
     clear g1 g2 hm
     go_wp2_with (go_at_call 140;(with_reducible refine (HIN.out _).mono ?_);rintro e W3 ⟨rfl,⟨⟨nd,rfl⟩⟩⟩;have HB3 := Lib.hid (zaM HB2.out nd);have HX3 := Lib.hid (zaG HX.out (zaM (Below.refl _ _) nd));have HY3 := Lib.hid (zaG HYZ.out (zaM (Below.refl _ _) nd));have x3' := zaB HX3.out 3;have y1' := zaB HY3.out 1;simp only [gzz] at x3' y1')
     go_ret2
     exact ⟨by rw [HQ1.out];rfl,HB3.out⟩
    ·rw [if_neg (fun h => h.elim g1 gB)] at HQ1
     have hpre : (b = false) ∨ (b = true ∧ (y1.toList == ([] : List UInt8)) = false ∧ y1.toList.isEmpty = false) := by
      cases b with
      | false => exact .inl rfl
      | true =>
       refine .inr ⟨rfl,?_,?_⟩
       ·rw [ziM];exact decide_eq_false fun h => gB ⟨rfl,h⟩
       ·rw [zeR];exact decide_eq_false fun h => gB ⟨rfl,h⟩
     have HM := Lib.hid hm
     have hm1 : (r.length : Int) - 2 = (m : Int) := by omega
     have hm2 : wrap64 ((r.length : Int) - 2) = (m : Int) := by rw [hm1];exact IntWalk.wrap64_in _ ⟨by omega,by omega⟩
     have hm3 : (m : Int) < (r.length : Int) := by omega
     rw [show r.length - 2 = m from by omega] at HQ1
     clear g1 gB hm
     rcases hpre with rfl | ⟨rfl,d2,d2'⟩
     case' inl => go_upto_region 24 with (go_at_call 140;(with_reducible refine (HIN.out _).mono ?_);rintro e W3 ⟨rfl,⟨⟨nd,rfl⟩⟩⟩;have HB3 := Lib.hid (zaM HB2.out nd);have HX3 := Lib.hid (zaG HX.out (zaM (Below.refl _ _) nd));have HY3 := Lib.hid (zaG HYZ.out (zaM (Below.refl _ _) nd));have x3' := zaB HX3.out 3;have y1' := zaB HY3.out 1;simp only [gzz] at x3' y1')
     case' inr => go_upto_region 24 with (go_at_call 140;(with_reducible refine (HIN.out _).mono ?_);rintro e W3 ⟨rfl,⟨⟨nd,rfl⟩⟩⟩;have HB3 := Lib.hid (zaM HB2.out nd);have HX3 := Lib.hid (zaG HX.out (zaM (Below.refl _ _) nd));have HY3 := Lib.hid (zaG HYZ.out (zaM (Below.refl _ _) nd));have x3' := zaB HX3.out 3;have y1' := zaB HY3.out 1;simp only [gzz] at x3' y1')
     all_goals
      obtain ⟨W5,hW5⟩ : ∃ W5,(W2.drewN nd).drew = W5 := ⟨_,rfl⟩
      have hb5 : Below w.heap.size w W5 := by rw [← hW5];exact zaJ HB3.out
      have hx5 : W5.heap[w.heap.size]? = some (.cells #[.int .i64 f0,.int .u8 f1,.string f2,.int .i64 f3] 47 (0,0)) := by rw [← hW5];exact HX3.out
      have hy5 : W5.heap[w.heap.size + 1]? = some (.cells #[.int .u8 y0,.string y1,.int .i64 y2,.int .i64 y3,.int .i64 y4,.string y5] 159 (0,0)) := by rw [← hW5];exact HY3.out
      have HB5 := Lib.hid hb5
      have HX5 := Lib.hid hx5
      have HY5 := Lib.hid hy5
      obtain ⟨ad2,e3,p0,p1,p2,p3,p4,p5⟩ := znZ (Kd.C_below HA.out HB5.out) (m : Int) (by omega) hm3
      obtain rfl := Option.some.inj e3
      clear e3
      simp only [Int.toNat_natCast] at p4
      obtain ⟨z,hz⟩ : ∃ z,(zaC r (m : Int)).f4 = z := ⟨_,rfl⟩
      rw [hz] at p4 HQ1
      have HP := Lib.hid p4
      clear p0 p1 p2 p3 p4 p5 hz hb5 hx5 hy5 x0 x1 x2 x3 x3' y1' y0c y1c HB3 HX3 HY3 HB2 HX HYZ HIN HM
      by_cases g3 : y0 = 114
      ·have d3 : (y0 == 114) = true := beq_iff_eq.2 g3
       rw [if_pos g3] at HQ1
       clear g3
       by_cases g4 : 0 < z
       ·rw [if_pos g4] at HQ1
        by_cases g5 : z = y1.size
        ·rw [if_pos g5] at HQ1
         have d5 : (z != (y1.size : Int)) = false := by rw [g5];simp
         clear g5
         refine Go.Det.region_all (fun W => W = W5) (by kernel_rfl) (by kernel_rfl) hW5 ?_
         repeat
          apply Go.Det.seqW_cons
          focus
           intro W hS
           obtain rfl : W = W5 := hS
           obtain ⟨x0,x1,x2,x3⟩ := zfN HX5.out
           obtain ⟨y0',y1'⟩ := zqU HY5.out
           have p4 := HP.out
           go_wp2
           exact Go.Det.AtEnd.mk rfl
         refine Go.Det.seqW_nil ?_
         intro W hS
         obtain rfl : W = W5 := hS
         obtain ⟨x0,x1,x2,x3⟩ := zfN HX5.out
         simp only [Exit.then]
         go_wp2
         go_ret2
         exact ⟨by rw [HQ1.out];rfl,HB5.out⟩
        ·rw [if_neg g5] at HQ1
         have d5 : (z != (y1.size : Int)) = true := bne_iff_ne.2 g5
         clear g5
         refine Go.Det.region_all (fun W => W = W5) (by kernel_rfl) (by kernel_rfl) hW5 ?_
         repeat
          apply Go.Det.seqW_cons
          focus
           intro W hS
           obtain rfl : W = W5 := hS
           obtain ⟨x0,x1,x2,x3⟩ := zfN HX5.out
           obtain ⟨y0',y1'⟩ := zqU HY5.out
           have p4 := HP.out
           go_wp2
           exact Go.Det.AtEnd.mk rfl
         refine Go.Det.seqW_nil ?_
         intro W hS
         obtain rfl : W = W5 := hS
         obtain ⟨x0,x1,x2,x3⟩ := zfN HX5.out
         simp only [Exit.then]
         go_wp2
         go_ret2
         exact ⟨by rw [HQ1.out];rfl,HB5.out⟩
       ·rw [if_neg g4] at HQ1
        have d4 : z ≤ 0 := by omega
        clear g4
        refine Go.Det.region_all (fun W => W = W5) (by kernel_rfl) (by kernel_rfl) hW5 ?_
        repeat
         apply Go.Det.seqW_cons
         focus
          intro W hS
          obtain rfl : W = W5 := hS
          obtain ⟨x0,x1,x2,x3⟩ := zfN HX5.out
          obtain ⟨y0',y1'⟩ := zqU HY5.out
          have p4 := HP.out
          go_wp2
          exact Go.Det.AtEnd.mk rfl
        refine Go.Det.seqW_nil ?_
        intro W hS
        obtain rfl : W = W5 := hS
        obtain ⟨x0,x1,x2,x3⟩ := zfN HX5.out
        simp only [Exit.then]
        go_wp2
        go_ret2
        exact ⟨by rw [HQ1.out];rfl,HB5.out⟩
      ·have d3 : (y0 == 114) = false := beq_eq_false_iff_ne.2 g3
       rw [if_neg g3] at HQ1
       clear g3
       refine Go.Det.region_all (fun W => W = W5) (by kernel_rfl) (by kernel_rfl) hW5 ?_
       repeat
        apply Go.Det.seqW_cons
        focus
         intro W hS
         obtain rfl : W = W5 := hS
         obtain ⟨x0,x1,x2,x3⟩ := zfN HX5.out
         obtain ⟨y0',y1'⟩ := zqU HY5.out
         have p4 := HP.out
         go_wp2
         exact Go.Det.AtEnd.mk rfl
       refine Go.Det.seqW_nil ?_
       intro W hS
       obtain rfl : W = W5 := hS
       obtain ⟨x0,x1,x2,x3⟩ := zfN HX5.out
       simp only [Exit.then]
       go_wp2
       go_ret2
       exact ⟨by rw [HQ1.out];rfl,HB5.out⟩
def stylusref04_Step.f (k : Nat) (l0 : List S56) (l1 : List S159) (a0 a1 : Int) (a2 : ByteArray) (a3 : Int) : Option (Int × Int) :=
 if 0 < l1.length ∧ l1.length ≤ 800000 ∧ (topR l1).f1.size ≤ 800000 ∧ a2.size ≤ 1000000 then some (zeS (zeZ l1 a1) ⟨l0,l1⟩ ⟨a0,a1,a2,a3⟩) else none
theorem stylusref04_Step.calls (k : Nat) (A0 : Option Addr) (c0 : Nat) (l0 : List (S56)) (A1 : Option Addr) (c1 : Nat) (l1 : List (S159)) (a2_0 : Int) (a2_1 : Int) (a2_2 : ByteArray) (a2_3 : Int) (r1 : Int) (r2 : Int) (w : World) (hr0 : Kd.C k56 w A0 l0.length l0) (hc0 : l0.length ≤ c0) (hr1 : Kd.C k159 w A1 l1.length l1) (hc1 : l1.length ≤ c1) (h : stylusref04_Step.f k l0 l1 a2_0 a2_1 a2_2 a2_3 = some (r1,r2)) :
  Calls Try.prog 96 #[.slice A0 l0.length c0,.slice A1 l1.length c1,.agg #[.int .i64 a2_0,.int .u8 a2_1,.string a2_2,.int .i64 a2_3]] w fun e w' => e = .returned (.tuple #[.int .i64 r1,.int .i64 r2]) ∧ Below w.heap.size w w' := by
 unfold stylusref04_Step.f at h
 by_cases hs : 0 < l1.length ∧ l1.length ≤ 800000 ∧ (topR l1).f1.size ≤ 800000 ∧ a2_2.size ≤ 1000000
 ·rw [if_pos hs] at h
  have h1 := Option.some.inj h
  have := zzV A0 c0 l0 A1 c1 l1 a2_0 a2_1 a2_2 a2_3 w hr1 hc1 hs.1 hs.2.1 hs.2.2.1 hs.2.2.2
  rw [h1] at this
  exact this
 rw [if_neg hs] at h
 cases h
theorem step_f (u : RSt) (x : S47) (hr : u.r.length ≤ 800000) (h0 : 0 < u.r.length) (hk : (topR u.r).f1.size ≤ 800000) (hx : x.f2.size ≤ 1000000) (k : Nat) : stylusref04_Step.f k u.t u.r x.f0 x.f1 x.f2 x.f3 = some (zeS (zeZ u.r x.f1) u x) := by
 unfold stylusref04_Step.f
 rw [if_pos ⟨h0,hr,hk,hx⟩]
end Go.Proofs.Ythcmfjpheanphaa.Pr
namespace Go.Proofs.Ythcmfjpheanphaa.Pr
open Go.RowKit Go.Proofs.YthcmfjpheanphaaW.PrintWords Go.Proofs.YthcmfjpheanphaaW.PrintLast Go.Proofs.YthcmfjpheanphaaW.PrintMore
attribute [local go_sem] zaX zaY zbG zbI zaV zaW zaZ zbA
def zjX : Nat → ByteArray → List (S47) → Int → Option ((List (S56)) × Int × Int)
 | 0,_,_,_ => none
 | k + 1,x0,x5,x8 => if x8 < (x5.length : Int) then (if 0 ≤ x8 then (if x8 ≤ (x5.length : Int) then ((stylusref04_Read.f (x5.take (x8 : Int).toNat)).bind fun bt165 => ((stylusref04_Step.f k bt165.1 bt165.2 ((zaI x5 x8).f0) ((zaI x5 x8).f1) ((zaI x5 x8).f2) ((zaI x5 x8).f3)).bind fun bt172 => (if bt172.2 = 0 then (zjX k x0 x5 (wrap64 (x8 + 1))) else (some (([] : List (S56)),bt172.1,bt172.2))))) else (none)) else (none)) else ((stylusref04_Read.f x5).bind fun bt155 => (if (bt155.2.length : Int) > 1 then (some (([] : List (S56)),(x0.size : Int),2)) else (some (bt155.1,0,0))))
def stylusref04_Parse.f (k : Nat) (a0 : ByteArray) : Option ((List (S56)) × Int × Int) := (stylusref03_Of.f k a0).bind fun bt150 => (if bt150.2.2 = 0 then (zjX k a0 bt150.1 0) else (some (([] : List (S56)),bt150.2.1,bt150.2.2)))
end Go.Proofs.Ythcmfjpheanphaa.Pr
namespace Go.Proofs.Ythcmfjpheanphaa.Pr
open Go.RowKit Go.Proofs.Ythcmfjpheanphaa.Pure Go.Proofs.YthcmfjpheanphaaW.PrintWords
theorem zuX : ∀ (l : List S47) (u : RSt) (x : S47),zjA u (l ++ [x]) = (zjA u l).bind fun v => zgN v x
 | [],u,x => by
  simp only [List.nil_append,zjA,Option.bind_some]
  cases zgN u x <;> rfl
 | y :: l,u,x => by
  simp only [List.cons_append,zjA]
  cases zgN u y with
  | none => rfl
  | some v => exact zuX l v x
theorem ygM (l : List S47) (i : Nat) (hi : i < l.length) : l.take (i + 1) = l.take i ++ [zaI l i] := by
 unfold zaI
 rw [List.take_add_one,List.getD_eq_getElem?_getD,Int.toNat_natCast,List.getElem?_eq_getElem hi]
 rfl
theorem ygN (l : List S47) (i : Nat) (hi : i < l.length) : l.drop i = zaI l i :: l.drop (i + 1) := by
 unfold zaI
 rw [List.drop_eq_getElem_cons hi,List.getD_eq_getElem?_getD,Int.toNat_natCast,List.getElem?_eq_getElem hi]
 rfl
theorem yjJ (l : List S47) (i : Nat) (hi : i < l.length) : zaI l i ∈ l := by
 unfold zaI
 rw [List.getD_eq_getElem?_getD,Int.toNat_natCast,List.getElem?_eq_getElem hi]
 exact List.getElem_mem hi
theorem read_f (l : List S47) (hl : l.length ≤ 800000) (hx : ∀ x ∈ l,LexF x) (u : RSt) (h : zjA zkW l = some u) : stylusref04_Read.f l = some (u.t,u.r) := by
 unfold stylusref04_Read.f
 rw [if_pos,h]
 ·rfl
 refine ⟨hl,?_⟩
 rw [List.all_eq_true]
 intro x hm
 obtain ⟨_,a,b,c,_⟩ := hx x hm
 simp [a,b,c]
theorem zzW {u : RSt} (h : 0 < u.r.length) : topR u.r ∈ u.r := by
 unfold topR
 rw [zmA,List.getD_eq_getElem?_getD,List.getElem?_eq_getElem (show u.r.length - 1 < u.r.length by omega)]
 exact List.getElem_mem _
theorem LexF.inOk {x : S47} (h : LexF x) : InOk x := ⟨h.2.2.2.1,h.2.1,h.2.2.1⟩
theorem stepOf {n : Nat} {s : Bld} {u : RSt} (h : Rel n s u) {i : Nat} (hb : RB u i) (hi : i ≤ 700000) (x : S47) (hx : LexF x) (k : Nat) (hk : 3000000 ≤ k) :
  stylusref04_Step.f k u.t u.r x.f0 x.f1 x.f2 x.f3 = some (zeS (zeZ u.r x.f1) u x) := by
 have h1 := hb.row
 have h2 := (hb.ops _ (zzW hb.pos)).a
 exact step_f u x (by omega) hb.pos (by omega) hx.2.2.2.1 k
end Go.Proofs.Ythcmfjpheanphaa.Pr
namespace Go.Proofs.Ythcmfjpheanphaa.Pr
open Go.RowKit Go.Proofs.YthcmfjpheanphaaW.PrintWords Go.Proofs.YthcmfjpheanphaaW.PrintLast Go.Proofs.YthcmfjpheanphaaW.PrintMore
attribute [local go_sem] zaX zaY zbG zbI zaV zaW zaZ zbA
mutual
def zcH : Nat → List (S56) → Int → Int → List (S47) → Option ((List (S47)) × Bool)
 | 0,_,_,_,_ => none
 | k + 1,x0,x1,x2,x8 => if x1 < x2 then (if 0 ≤ x1 then (if x1 < (x0.length : Int) then (if ((zaA x0 x1).f3) < 1 then (zcP k x0 x1 x2 x8 true ((zaA x0 x1).f0) ((zaA x0 x1).f1) ((zaA x0 x1).f2) ((zaA x0 x1).f3)) else (if (wrap64 (x1 + ((zaA x0 x1).f3))) > x2 then (zcP k x0 x1 x2 x8 true ((zaA x0 x1).f0) ((zaA x0 x1).f1) ((zaA x0 x1).f2) ((zaA x0 x1).f3)) else (zcP k x0 x1 x2 x8 (decide ((wrap64 (x1 + ((zaA x0 x1).f3))) < x1)) ((zaA x0 x1).f0) ((zaA x0 x1).f1) ((zaA x0 x1).f2) ((zaA x0 x1).f3)))) else (none)) else (none)) else (some (x8,true))
def zcP : Nat → List (S56) → Int → Int → List (S47) → Bool → Int → ByteArray → Int → Int → Option ((List (S47)) × Bool)
 | 0,_,_,_,_,_,_,_,_,_ => none
 | k + 1,x0,x1,x2,x8,x37,x291000,x291001,x291002,x291003 => if x37 = true then (some (([] : List (S47)),false)) else (if x291000 = 46 then (if x291003 = 1 then (if x8.length < 3518437208883 then (zcH k x0 (wrap64 (x1 + x291003)) x2 (x8 ++ [(⟨1,0,x291001,0⟩ : S47)])) else (none)) else (some (([] : List (S47)),false))) else ((stylusref04_events.f k x0 (wrap64 (x1 + 1)) (wrap64 (x1 + x291003))).bind fun bt294 => (if bt294.2 = true then (if x8.length < 3518437208883 then ((some (x8 ++ [(⟨2,x291000,(⟨#[]⟩ : ByteArray),0⟩ : S47)] : List (S47))).bind fun y298 => (if y298.length + bt294.1.length < 3518437208883 then ((some (y298 ++ bt294.1 : List (S47))).bind fun y301 => (if y301.length < 3518437208883 then (zcH k x0 (wrap64 (x1 + x291003)) x2 (y301 ++ [(⟨3,0,(⟨#[]⟩ : ByteArray),0⟩ : S47)])) else (none))) else (none))) else (none)) else (some (([] : List (S47)),false)))))
def stylusref04_events.f : Nat → List (S56) → Int → Int → Option ((List (S47)) × Bool)
 | 0,_,_,_ => none
 | k + 1,l0,a1,a2 => zcH k l0 a1 a2 ([] : List (S47))
end
theorem stylusref04_events.calls (k : Nat) : ∀ (A0 : Option Addr) (c0 : Nat) (l0 : List (S56)) (a1 : Int) (a2 : Int) (r1 : List (S47)) (r2 : Bool) (w : World) (hr0 : Kd.C k56 w A0 l0.length l0) (hc0 : l0.length ≤ c0) (h : stylusref04_events.f k l0 a1 a2 = some (r1,r2)),
  Calls Try.prog 107 #[.slice A0 l0.length c0,.int .i64 a1,.int .i64 a2] w fun e w' => ∃ v0_ : Value,e = .returned (.tuple #[v0_,.bool r2]) ∧ Kd.R k47 47 w' w.heap.size (fun _ => True) v0_ r1 ∧ Below w.heap.size w w' := by
 induction k using Nat.strongRecOn with
 | _ k ih =>
 intro A0 c0 l0 a1 a2 r1 r2 w hr0 hc0 h
 cases k with
 | zero => exact absurd h (by simp [stylusref04_events.f])
 | succ k =>
 simp only [stylusref04_events.f] at h
 have hu56 := Try.underlying56
 have hu47 := Try.underlying47
 have HR0 := Aside0.mk hr0
 have HC0 := Aside0.mk hc0
 clear hr0 hc0
 have HB := Aside0.mk (Below.refl w.heap.size w)
 have H : (zcH k l0 a1 a2 ([] : List (S47))) = some (r1,r2) := h
 clear h
 have H' := Aside0.mk H
 clear H
 go_enter Try.func107,Try.ntmps107
 go_wp2
 go_loopg [1,8] k (fun kq v1 v8 w' => ∃ (x1_1 : Int) (x8_1 : List (S47)),v1 = .int .i64 x1_1 ∧ Aside0 (zcH kq l0 x1_1 a2 x8_1 = some (r1,r2)) ∧ Aside0 (kq ≤ k) ∧ Aside0 (Kd.R k47 47 w' w.heap.size (fun _ => True) v8 x8_1) ∧ Aside0 (Below w.heap.size w w'))
 case atStart => exact ⟨(a1),(([] : List (S47))),qS,H',⟨Nat.le_refl _⟩,⟨qN⟩,⟨qB⟩⟩
 clear H'
 obtain ⟨x1_1,x8_1,rfl,HA,HK1,HO_8,HB⟩ := hrel
 cases gk with
 | zero => exact absurd HA.out (by simp [zcH])
 | succ k1 =>
 have H := HA.out
 clear HA
 simp only [zcH] at H
 obtain ⟨c4b0,H⟩ | ⟨c4b0,H⟩ := spD H
 rotate_left
 ·simp only [Option.some.injEq,Prod.mk.injEq] at H
  obtain ⟨rfl,rfl⟩ := H
  go_wp2
  go_ret2
  exact ⟨_,qE,qR HO_8,qB⟩
 obtain ⟨c5b0,H⟩ := spN H
 obtain ⟨c6b0,H⟩ := spN H
 have HC7 := Aside0.mk H
 clear H
 obtain ⟨ad289,e289,p289,q289,hx289_0,hx289_1,hx289_2,hx289_3⟩ := aT56 HR0 HB x1_1
 cases e289
 go_upto_region 4 with (first | ((with_reducible refine zdT (N := 9) rfl ?_);refine zeW ?hg (N := 9) ?hd (cs := #[.int .u8 0,.string (⟨#[]⟩ : ByteArray),.int .i64 0,.int .i64 0]) (t := 56) ?hr ?_;(case hd => rfl);(case hg => rfl);(case hr => first | (go_simp;done) | (go_simp;rfl));intro gb290 hg w8 hbox hb;obtain ⟨_,_,_,_⟩ := a4 (Kd.R_below (qR HO_8) hb) (zaD qB hb) hbox ((by rw [hg];exact (zaF qB) : w.heap.size ≤ gb290));clear HO_8 HB hb hbox hg;rename_i HO_8 HB BK290 GW290;have GE290 := GW290;obtain ⟨_,_,_,_,_,_,_,_⟩ := zfA BK290.out))
 (try simp only [Act.put,szz])
 go_cut [37] (fun v37 wc => ∃ (kq : Nat) (x37_6 : Bool),v37 = .bool x37_6 ∧ Aside0 (zcP kq l0 x1_1 a2 x8_1 x37_6 ((zaA l0 x1_1).f0) ((zaA l0 x1_1).f1) ((zaA l0 x1_1).f2) ((zaA l0 x1_1).f3) = some (r1,r2)) ∧ Aside0 (kq ≤ k1) ∧ Aside0 (Kd.R k47 47 wc w.heap.size (fun _ => True) u8 x8_1) ∧ Aside0 (wc.heap[gb290]? = some (.cells #[.int .u8 ((zaA l0 x1_1).f0),.string ((zaA l0 x1_1).f1),.int .i64 ((zaA l0 x1_1).f2),.int .i64 ((zaA l0 x1_1).f3)] 56 (0,0))) ∧ Aside0 (Below w.heap.size w wc))
 case first =>
  have H := HC7.out
  clear HC7
  obtain ⟨c10b0,H⟩ | ⟨c10b0,H⟩ := spD H
  ·(first | rw [c10b0] | (simp only [zaO,zaR];rw [c10b0]) | skip)
   have H' := Aside0.mk H
   clear H
   obtain ⟨_,_,_,_,_,_,_,_⟩ := zfA BK290.out
   go_wp2
   go_meet
   case rel => exact ⟨_,(true),qS,H',⟨by have := HK1.out;first | omega | exact Nat.le_refl _⟩,⟨qX HO_8 BK290⟩,⟨qK BK290⟩,⟨qG GE290⟩⟩
  (first | rw [c10b0] | (simp only [zaO,zaR];rw [c10b0]) | skip)
  obtain ⟨c12b0,H⟩ | ⟨c12b0,H⟩ := spDg H
  ·have H' := Aside0.mk H
   clear H
   obtain ⟨_,_,_,_,_,_,_,_⟩ := zfA BK290.out
   go_wp2
   go_meet
   case rel => exact ⟨_,(true),qS,H',⟨by have := HK1.out;first | omega | exact Nat.le_refl _⟩,⟨qX HO_8 BK290⟩,⟨qK BK290⟩,⟨qG GE290⟩⟩
  have H' := Aside0.mk H
  clear H
  obtain ⟨_,_,_,_,_,_,_,_⟩ := zfA BK290.out
  go_wp2
  go_meet
  case rel => exact ⟨_,(decide ((wrap64 (x1_1 + ((zaA l0 x1_1).f3))) < x1_1)),qS,H',⟨by have := HK1.out;first | omega | exact Nat.le_refl _⟩,⟨qX HO_8 BK290⟩,⟨qK BK290⟩,⟨qG GE290⟩⟩
 clear HC7
 obtain ⟨kq,x37_6,rfl,HA,HJ6,HO_8,BK290,HB⟩ := hcut
 cases kq with
 | zero => exact absurd HA.out (by simp [zcP])
 | succ kj6 =>
 have H := HA.out
 clear HA
 simp only [zcP] at H
 by_cases c15 : x37_6 = true
 ·subst c15
  rw [if_pos rfl] at H
  simp only [Option.some.injEq,Prod.mk.injEq] at H
  obtain ⟨rfl,rfl⟩ := H
  go_wp2
  go_ret2
  exact ⟨_,qE,qN,qG GE290⟩
 replace c15 := Bool.eq_false_iff.mpr c15
 subst c15
 rw [if_neg nft] at H
 obtain ⟨c16b0,c16b1,H⟩ | ⟨c16b0,c16b1,H⟩ := spE H
 ·obtain ⟨c17b0,c17b1,H⟩ | ⟨c17b0,c17b1,H⟩ := spE H
  ·obtain ⟨LMc18,H⟩ := spL H
   obtain ⟨y291,Ny291,H⟩ := bsA H
   have H' := Aside0.mk H
   clear H
   obtain ⟨_,_,_,_,_,_,_,_⟩ := zfA BK290.out
   go_wp2_with (first | ((with_reducible refine zcJ (b := .append) (xs := #[.tmp 44,.tmp 48]) rfl ?_);at_builtin;refine Kd.R_append k47 (w0 := w) w.heap.size rfl (.tmp 44) (.tmp 48) 41 47 (.agg #[(.int .i64 0),(.int .u8 0),(.string ⟨#[]⟩),(.int .i64 0)]) 40 rfl Try.underlying41 zhR rfl (by decide) (by omega) u8 x8_1 (⟨1,0,((zaA l0 x1_1).f1),0⟩ : S47) [.int .i64 1,.int .u8 0,.string ((zaA l0 x1_1).f1),.int .i64 0] (fun _ => True) (fun _ => False) rfl rfl ?aP (fun _ hk => hk.elim) ?aF ?aO ?aB ?aS ?aL ?_;(case aP => exact ziE _ _ _ (⟨1,0,((zaA l0 x1_1).f1),0⟩ : S47));(case aB => exact qG GE290);(case aF => exact (fun _ _ => trivial));(case aO => exact qR HO_8);(case aS => exact (zaF (qG GE290)));(case aL => have := LMc18.out;omega);intro v292 w20 ho hb hg hat;rw [← Ny291.out] at ho;obtain ⟨_,_,_⟩ := a3 (zbS (g := gb290) (o := .cells #[.int .u8 ((zaA l0 x1_1).f0),.string ((zaA l0 x1_1).f1),.int .i64 ((zaA l0 x1_1).f2),.int .i64 ((zaA l0 x1_1).f3)] 56 (0,0)) (qK BK290) hg (Kd.R_ne HO_8.out BK290.out (by decide))) hb ho;clear BK290 HB HO_8 ho hb hg hat;rename_i BK290 HB HO293;obtain ⟨_,_,_,_,_,_,_,_⟩ := zfA BK290.out))
   go_roundg kj6
   case measure => have := HK1.out;have := HJ6.out;omega
   case rel => exact ⟨(wrap64 (x1_1 + ((zaA l0 x1_1).f3))),(y291),qS,H',⟨by have := HK1.out;have := HJ6.out;omega⟩,⟨qR HO293⟩,⟨qG GE290⟩⟩
  simp only [Option.some.injEq,Prod.mk.injEq] at H
  obtain ⟨rfl,rfl⟩ := H
  obtain ⟨_,_,_,_,_,_,_,_⟩ := zfA BK290.out
  go_wp2
  go_ret2
  exact ⟨_,qE,qN,qG GE290⟩
 obtain ⟨⟨t294,t295⟩,A23,H⟩ := bdA H
 dsimp only at H
 by_cases c24 : t295 = true
 rotate_left
 ·replace c24 := Bool.eq_false_iff.mpr c24
  subst c24
  rw [if_neg nft] at H
  simp only [Option.some.injEq,Prod.mk.injEq] at H
  obtain ⟨rfl,rfl⟩ := H
  obtain ⟨_,_,_,_,_,_,_,_⟩ := zfA BK290.out
  go_wp2_with (first | ((with_reducible refine zaE (f := 107) rfl ?_);refine zaL (some 58) rfl rfl Try.func107 (by kernel_rfl) rfl #[.slice (some ad289) l0.length c0,.int .i64 (wrap64 (x1_1 + 1)),.int .i64 (wrap64 (x1_1 + ((zaA l0 x1_1).f3)))] rfl qM ?_;(with_reducible refine (ih kj6 (by have := HK1.out;have := HJ6.out;omega) _ _ l0 (wrap64 (x1_1 + 1)) (wrap64 (x1_1 + ((zaA l0 x1_1).f3))) t294 false _ ?side1 ?side2 A23.out).mono ?_);(case side1 => exact qC ((Kd.C_below HR0.out HB.out)));(case side2 => exact HC0.out);rintro e w37 ⟨v296,rfl,ho0,hb⟩;refine ⟨_,rfl,?_⟩;obtain ⟨_,_,_,_⟩ := a4 (Kd.R_elder' (qR HO_8) (Kd.R_base ho0) hb) (Kd.R_lower (Kd.R_new' ho0 (Kd.R_lt (qR HO_8))) (zaF (qG GE290))) (zaG (g := gb290) (o := .cells #[.int .u8 ((zaA l0 x1_1).f0),.string ((zaA l0 x1_1).f1),.int .i64 ((zaA l0 x1_1).f2),.int .i64 ((zaA l0 x1_1).f3)] 56 (0,0)) (qK BK290) hb) (zaD (qG GE290) hb);clear HO_8 BK290 HB;rename_i HO_8 HO297 BK290 HB;(try clear hb);(try clear hb2);(try clear hk);(try clear hi);(try clear ho0)))
  go_ret2
  exact ⟨_,qE,qN,qG GE290⟩
 subst c24
 rw [if_pos rfl] at H
 obtain ⟨LMc25,H⟩ := spL H
 obtain ⟨y298,Ny298,H⟩ := bsA H
 obtain ⟨LMc26,H⟩ := spL H
 obtain ⟨y301,Ny301,H⟩ := bsA H
 obtain ⟨LMc27,H⟩ := spL H
 obtain ⟨y304,Ny304,H⟩ := bsA H
 have H' := Aside0.mk H
 clear H
 obtain ⟨_,_,_,_,_,_,_,_⟩ := zfA BK290.out
 go_wp2_with (first | ((with_reducible refine zaE (f := 107) rfl ?_);refine zaL (some 58) rfl rfl Try.func107 (by kernel_rfl) rfl #[.slice (some ad289) l0.length c0,.int .i64 (wrap64 (x1_1 + 1)),.int .i64 (wrap64 (x1_1 + ((zaA l0 x1_1).f3)))] rfl qM ?_;(with_reducible refine (ih kj6 (by have := HK1.out;have := HJ6.out;omega) _ _ l0 (wrap64 (x1_1 + 1)) (wrap64 (x1_1 + ((zaA l0 x1_1).f3))) t294 true _ ?side1 ?side2 A23.out).mono ?_);(case side1 => exact qC ((Kd.C_below HR0.out HB.out)));(case side2 => exact HC0.out);rintro e w29 ⟨v296,rfl,ho0,hb⟩;refine ⟨_,rfl,?_⟩;obtain ⟨_,_,_,_⟩ := a4 (Kd.R_elder' (qR HO_8) (Kd.R_base ho0) hb) (Kd.R_lower (Kd.R_new' ho0 (Kd.R_lt (qR HO_8))) (zaF (qG GE290))) (zaG (g := gb290) (o := .cells #[.int .u8 ((zaA l0 x1_1).f0),.string ((zaA l0 x1_1).f1),.int .i64 ((zaA l0 x1_1).f2),.int .i64 ((zaA l0 x1_1).f3)] 56 (0,0)) (qK BK290) hb) (zaD (qG GE290) hb);clear HO_8 BK290 HB;rename_i HO_8 HO297 BK290 HB;(try clear hb);(try clear hb2);(try clear hk);(try clear hi);(try clear ho0);obtain ⟨_,_,_,_,_,_,_,_⟩ := zfA BK290.out) | ((with_reducible refine zcJ (b := .append) (xs := #[.tmp 63,.tmp 67]) rfl ?_);at_builtin;refine Kd.R_append k47 (w0 := w) w.heap.size rfl (.tmp 63) (.tmp 67) 41 47 (.agg #[(.int .i64 0),(.int .u8 0),(.string ⟨#[]⟩),(.int .i64 0)]) 40 rfl Try.underlying41 zhR rfl (by decide) (by omega) u8 x8_1 (⟨2,((zaA l0 x1_1).f0),(⟨#[]⟩ : ByteArray),0⟩ : S47) [.int .i64 2,.int .u8 ((zaA l0 x1_1).f0),.string (⟨#[]⟩ : ByteArray),.int .i64 0] (fun k_ => some k_ ≠ (v296 : Value).ownBlock) (fun _ => False) rfl rfl ?aP (fun _ hk => hk.elim) ?aF ?aO ?aB ?aS ?aL ?_;(case aP => exact ziE _ _ _ (⟨2,((zaA l0 x1_1).f0),(⟨#[]⟩ : ByteArray),0⟩ : S47));(case aB => exact qG GE290);(case aF => exact (fun k_ hk => Kd.fresh' (Kd.R_lt (qR HO297)) k_ hk));(case aO => exact qRa HO_8);(case aS => exact (zaF (qG GE290)));(case aL => have := LMc25.out;omega);intro v299 w31 ho hb hg hat;rw [← Ny298.out] at ho;obtain ⟨_,_,_,_⟩ := a4 (zbS (g := gb290) (o := .cells #[.int .u8 ((zaA l0 x1_1).f0),.string ((zaA l0 x1_1).f1),.int .i64 ((zaA l0 x1_1).f2),.int .i64 ((zaA l0 x1_1).f3)] 56 (0,0)) (qK BK290) hg (Kd.R_ne HO_8.out BK290.out (by decide))) (Kd.R_after (ok := (fun _ => True)) (qR HO297) hg hat) hb ho;clear BK290 HO297 HB HO_8 ho hb hg hat;rename_i BK290 HO297 HB HO300;obtain ⟨Ao33,co33,eo33⟩ := Kd.R_slice HO297.out;subst eo33) | ((with_reducible refine zcJ (b := .append) (xs := #[.tmp 69,.tmp 70]) rfl ?_);at_builtin;refine Kd.R_append_rows k47 (w0 := w) w.heap.size rfl (.tmp 69) (.tmp 70) 41 47 (.agg #[(.int .i64 0),(.int .u8 0),(.string ⟨#[]⟩),(.int .i64 0)]) 40 rfl Try.underlying41 zhR rfl (by decide) (by omega) v299 y298 t294 _ _ _ (fun k_ => some k_ ≠ (.slice Ao33 t294.length co33 : Value).ownBlock) (fun _ => False) rfl rfl ?aO ?aR (fun _ _ h => h) (fun _ h => h.elim) ?aF ?aB ?aS ?aL ?_;(case aR => exact qC ((Kd.R_reads' HO297.out).2.2));(case aB => exact qG GE290);(case aF => exact (fun k_ hk => Kd.fresh' (Kd.R_lt (qR HO297)) k_ hk));(case aO => exact qR HO300);(case aS => exact (zaF (qG GE290)));(case aL => have := LMc26.out;omega);intro v302 w32 ho hb hg hat;rw [← Ny301.out] at ho;obtain ⟨_,_,_,_⟩ := a4 (zbS (g := gb290) (o := .cells #[.int .u8 ((zaA l0 x1_1).f0),.string ((zaA l0 x1_1).f1),.int .i64 ((zaA l0 x1_1).f2),.int .i64 ((zaA l0 x1_1).f3)] 56 (0,0)) (qK BK290) hg (Kd.R_ne HO300.out BK290.out (by decide))) (Kd.R_after (ok := (fun _ => True)) (qR HO297) hg hat) hb ho;clear BK290 HO297 HB HO300 ho hb hg hat;rename_i BK290 HO297 HB HO303) | ((with_reducible refine zcJ (b := .append) (xs := #[.tmp 72,.tmp 74]) rfl ?_);at_builtin;refine Kd.R_append k47 (w0 := w) w.heap.size rfl (.tmp 72) (.tmp 74) 41 47 (.agg #[(.int .i64 0),(.int .u8 0),(.string ⟨#[]⟩),(.int .i64 0)]) 40 rfl Try.underlying41 zhR rfl (by decide) (by omega) v302 y301 (⟨3,0,(⟨#[]⟩ : ByteArray),0⟩ : S47) [.int .i64 3,.int .u8 0,.string (⟨#[]⟩ : ByteArray),.int .i64 0] (fun k_ => some k_ ≠ (.slice Ao33 t294.length co33 : Value).ownBlock) (fun _ => False) rfl rfl ?aP (fun _ hk => hk.elim) ?aF ?aO ?aB ?aS ?aL ?_;(case aP => exact ziE _ _ _ (⟨3,0,(⟨#[]⟩ : ByteArray),0⟩ : S47));(case aB => exact qG GE290);(case aF => exact (fun k_ hk => Kd.fresh' (Kd.R_lt (qR HO297)) k_ hk));(case aO => exact qR HO303);(case aS => exact (zaF (qG GE290)));(case aL => have := LMc27.out;omega);intro v305 w34 ho hb hg hat;rw [← Ny304.out] at ho;obtain ⟨_,_,_,_⟩ := a4 (zbS (g := gb290) (o := .cells #[.int .u8 ((zaA l0 x1_1).f0),.string ((zaA l0 x1_1).f1),.int .i64 ((zaA l0 x1_1).f2),.int .i64 ((zaA l0 x1_1).f3)] 56 (0,0)) (qK BK290) hg (Kd.R_ne HO303.out BK290.out (by decide))) (Kd.R_after (ok := (fun _ => True)) (qR HO297) hg hat) hb ho;clear BK290 HO297 HB HO303 ho hb hg hat;rename_i BK290 HO297 HB HO306;obtain ⟨_,_,_,_,_,_,_,_⟩ := zfA BK290.out))
 go_roundg kj6
 case measure => have := HK1.out;have := HJ6.out;omega
 case rel => exact ⟨(wrap64 (x1_1 + ((zaA l0 x1_1).f3))),(y304),qS,H',⟨by have := HK1.out;have := HJ6.out;omega⟩,⟨qRb HO306⟩,⟨qG GE290⟩⟩
mutual
def zcC : Nat → List (S56) → Int → Option (Int)
 | 0,_,_ => none
 | k + 1,x0,x3 => if x3 < (x0.length : Int) then (if 0 ≤ x3 then (if ((zaA x0 x3).f0) = 46 then (if ((zaA x0 x3).f1).toList = ([] : List UInt8) then (zcU k x0 x3 true) else (zcU k x0 x3 false)) else (if ((zaA x0 x3).f1).toList = ([] : List UInt8) then ((stylusref03_Name.f k ((zaA x0 x3).f0)).bind fun t278 => (zcU k x0 x3 (t278.toList == ([] : List UInt8)))) else (zcU k x0 x3 true))) else (none)) else ((stylusref04_events.f k x0 0 (x0.length : Int)).bind fun bt284 => (if bt284.2 = true then (zbQ k bt284.1 0 0 0) else (some 2)))
def zcU : Nat → List (S56) → Int → Bool → Option (Int)
 | 0,_,_,_ => none
 | k + 1,x0,x3,x58 => if x58 = true then (some 2) else (zcN k x0 x3 0)
def zcN : Nat → List (S56) → Int → Int → Option (Int)
 | 0,_,_,_ => none
 | k + 1,x0,x3,x4 => if 0 ≤ x3 then (if x3 < (x0.length : Int) then (if x4 < (((zaA x0 x3).f1).size : Int) then (if 0 ≤ x4 then ((stylusref01_Is.f k (bt ((zaA x0 x3).f1) x4)).bind fun t281 => (if t281 = true then (zcN k x0 x3 (wrap64 (x4 + 1))) else ((stylusref01_White.f (bt ((zaA x0 x3).f1) x4)).bind fun t283 => (if t283 = true then (zcN k x0 x3 (wrap64 (x4 + 1))) else (some 2))))) else (none)) else (zcC k x0 (wrap64 (x3 + 1)))) else (none)) else (none)
def zbQ : Nat → List (S47) → Int → Int → Int → Option (Int)
 | 0,_,_,_,_ => none
 | k + 1,x5,x7,x8,x9 => if x9 < (x5.length : Int) then (if 0 ≤ x9 then (if x9 ≤ (x5.length : Int) then ((stylusref04_Read.f (x5.take (x9 : Int).toNat)).bind fun bt292 => (if ((zaI x5 x9).f0) = 1 then ((stylusref04_Texts.f k bt292.2).bind fun t299 => (zcV k x5 x7 x8 x9 bt292.1 bt292.2 (!t299))) else (zcV k x5 x7 x8 x9 bt292.1 bt292.2 false))) else (none)) else (none)) else (if x7 > 0 then (some 5) else (if x8 > 0 then (some 4) else (some 0)))
def zcV : Nat → List (S47) → Int → Int → Int → List (S56) → List (S159) → Bool → Option (Int)
 | 0,_,_,_,_,_,_,_ => none
 | k + 1,x5,x7,x8,x9,x10,x11,x121 => if x121 = true then (some 2) else (if 0 ≤ x9 then (if x9 < (x5.length : Int) then ((stylusref04_Step.f k x10 x11 ((zaI x5 x9).f0) ((zaI x5 x9).f1) ((zaI x5 x9).f2) ((zaI x5 x9).f3)).bind fun bt301 => (if bt301.2 = 2 then (some bt301.2) else (if bt301.2 = 5 then (if bt301.2 = 4 then (zbQ k x5 (wrap64 (x7 + 1)) (wrap64 (x8 + 1)) (wrap64 (x9 + 1))) else (zbQ k x5 (wrap64 (x7 + 1)) x8 (wrap64 (x9 + 1)))) else (if bt301.2 = 4 then (zbQ k x5 x7 (wrap64 (x8 + 1)) (wrap64 (x9 + 1))) else (zbQ k x5 x7 x8 (wrap64 (x9 + 1))))))) else (none)) else (none))
end
def stylusref04_Check.f (k : Nat) (l0 : List (S56)) : Option (Int) := zcC k l0 0
theorem stylusref04_Check.calls (k : Nat) (A0 : Option Addr) (c0 : Nat) (l0 : List (S56)) (r : Int) (w : World) (hr0 : Kd.C k56 w A0 l0.length l0) (hc0 : l0.length ≤ c0) (h : stylusref04_Check.f k l0 = some r) :
  Calls Try.prog 60 #[.slice A0 l0.length c0] w fun e w' => e = .returned (.int .i64 r) ∧ Below w.heap.size w w' := by
 have hu47 := Try.underlying47
 have HR0 := Aside0.mk hr0
 have HC0 := Aside0.mk hc0
 clear hr0 hc0
 have HB := Aside0.mk (Below.refl w.heap.size w)
 have H : (zcC k l0 0) = some r := h
 clear h
 have H' := Aside0.mk H
 clear H
 go_enter Try.func60,Try.ntmps60
 go_wp2
 go_loopg [3] k (fun kq v3 w' => ∃ (x3_1 : Int),v3 = .int .i64 x3_1 ∧ Aside0 (zcC kq l0 x3_1 = some r) ∧ Aside0 (kq ≤ k) ∧ Aside0 (Below w.heap.size w w'))
 case atStart => exact ⟨(0),qS,H',⟨Nat.le_refl _⟩,⟨qB⟩⟩
 clear H'
 obtain ⟨x3_1,rfl,HA,HK1,HB⟩ := hrel
 cases gk with
 | zero => exact absurd HA.out (by simp [zcC])
 | succ k1 =>
 have H := HA.out
 clear HA
 simp only [zcC] at H
 obtain ⟨c2b0,H⟩ | ⟨c2b0,H⟩ := spD H
 ·have HC3 := Aside0.mk H
  clear H
  go_upto_region 4 with (fail)
  go_cut [58] (fun v58 wc => ∃ (kq : Nat) (x58_2 : Bool),v58 = .bool x58_2 ∧ Aside0 (zcU kq l0 x3_1 x58_2 = some r) ∧ Aside0 (kq ≤ k1) ∧ Aside0 (Below w.heap.size w wc))
  case first =>
   have H := HC3.out
   clear HC3
   obtain ⟨c4b0,H⟩ := spN H
   (first | rw [c4b0] | (simp only [zaO,zaR];rw [c4b0]) | skip)
   obtain ⟨c5b0,c5b1,H⟩ | ⟨c5b0,c5b1,H⟩ := spE H
   ·obtain ⟨c6b0,c6b1,H⟩ | ⟨c6b0,c6b1,H⟩ := spE H
    ·have H' := Aside0.mk H
     clear H
     obtain ⟨ad272,e272,p272,q272,hx272_0,hx272_1,hx272_2,hx272_3⟩ := aT56 HR0 HB x3_1
     cases e272
     obtain ⟨ad273,e273,p273,q273,hx273_0,hx273_1,hx273_2,hx273_3⟩ := aT56 HR0 HB x3_1
     obtain rfl : ad272 = ad273 := (by injection e273)
     go_wp2
     go_meet
     case rel => exact ⟨_,(true),qS,H',⟨by have := HK1.out;first | omega | exact Nat.le_refl _⟩,⟨qB⟩⟩
    have H' := Aside0.mk H
    clear H
    obtain ⟨ad272,e272,p272,q272,hx272_0,hx272_1,hx272_2,hx272_3⟩ := aT56 HR0 HB x3_1
    cases e272
    obtain ⟨ad273,e273,p273,q273,hx273_0,hx273_1,hx273_2,hx273_3⟩ := aT56 HR0 HB x3_1
    obtain rfl : ad272 = ad273 := (by injection e273)
    obtain ⟨ad274,e274,p274,q274,hx274_0,hx274_1,hx274_2,hx274_3⟩ := aT56 HR0 HB x3_1
    obtain rfl : ad272 = ad274 := (by injection e274)
    go_wp2
    go_meet
    case rel => exact ⟨_,(false),qS,H',⟨by have := HK1.out;first | omega | exact Nat.le_refl _⟩,⟨qB⟩⟩
   obtain ⟨c7b0,c7b1,H⟩ | ⟨c7b0,c7b1,H⟩ := spE H
   ·obtain ⟨t278,A8,H⟩ := bdA H
    have H' := Aside0.mk H
    clear H
    obtain ⟨ad272,e272,p272,q272,hx272_0,hx272_1,hx272_2,hx272_3⟩ := aT56 HR0 HB x3_1
    cases e272
    obtain ⟨ad275,e275,p275,q275,hx275_0,hx275_1,hx275_2,hx275_3⟩ := aT56 HR0 HB x3_1
    obtain rfl : ad272 = ad275 := (by injection e275)
    obtain ⟨ad276,e276,p276,q276,hx276_0,hx276_1,hx276_2,hx276_3⟩ := aT56 HR0 HB x3_1
    obtain rfl : ad272 = ad276 := (by injection e276)
    obtain ⟨ad277,e277,p277,q277,hx277_0,hx277_1,hx277_2,hx277_3⟩ := aT56 HR0 HB x3_1
    obtain rfl : ad272 = ad277 := (by injection e277)
    go_wp2_with (first | (go_at_call 49;(with_reducible refine (stylusref03_Name.calls k1 ((zaA l0 x3_1).f0) t278 _ A8.out).mono ?_);rintro e w9 ⟨rfl,hb⟩;have := a1 (zaD qB hb);clear HB;have HB := this;clear this;(try clear hb);(try clear hb2);(try clear hk);(try clear hi)))
    go_meet
    case rel => exact ⟨_,((t278.toList == ([] : List UInt8))),qS,H',⟨by have := HK1.out;first | omega | exact Nat.le_refl _⟩,⟨qB⟩⟩
   have H' := Aside0.mk H
   clear H
   obtain ⟨ad272,e272,p272,q272,hx272_0,hx272_1,hx272_2,hx272_3⟩ := aT56 HR0 HB x3_1
   cases e272
   obtain ⟨ad275,e275,p275,q275,hx275_0,hx275_1,hx275_2,hx275_3⟩ := aT56 HR0 HB x3_1
   obtain rfl : ad272 = ad275 := (by injection e275)
   obtain ⟨ad276,e276,p276,q276,hx276_0,hx276_1,hx276_2,hx276_3⟩ := aT56 HR0 HB x3_1
   obtain rfl : ad272 = ad276 := (by injection e276)
   go_wp2
   go_meet
   case rel => exact ⟨_,(true),qS,H',⟨by have := HK1.out;first | omega | exact Nat.le_refl _⟩,⟨qB⟩⟩
  clear HC3
  obtain ⟨kq,x58_2,rfl,HA,HJ2,HB⟩ := hcut
  cases kq with
  | zero => exact absurd HA.out (by simp [zcU])
  | succ kj2 =>
  have H := HA.out
  clear HA
  simp only [zcU] at H
  by_cases c10 : x58_2 = true
  ·subst c10
   rw [if_pos rfl] at H
   obtain rfl := Option.some.inj H
   go_wp2
   go_ret
   exact ⟨qE,qB⟩
  replace c10 := Bool.eq_false_iff.mpr c10
  subst c10
  rw [if_neg nft] at H
  have H' := Aside0.mk H
  clear H
  go_wp2
  go_loopg [4] kj2 (fun kq v4 w' => ∃ (x4_3 : Int),v4 = .int .i64 x4_3 ∧ Aside0 (zcN kq l0 x3_1 x4_3 = some r) ∧ Aside0 (kq ≤ kj2) ∧ Aside0 (Below w.heap.size w w'))
  case atStart => exact ⟨(0),qS,H',⟨Nat.le_refl _⟩,⟨qB⟩⟩
  clear H'
  obtain ⟨x4_3,rfl,HA,HK3,HB⟩ := hrel
  cases gk with
  | zero => exact absurd HA.out (by simp [zcN])
  | succ k3 =>
  have H := HA.out
  clear HA
  simp only [zcN] at H
  obtain ⟨c11b0,H⟩ := spN H
  obtain ⟨c12b0,H⟩ := spN H
  obtain ⟨c13b0,H⟩ | ⟨c13b0,H⟩ := spD H
  rotate_left
  ·have H' := Aside0.mk H
   clear H
   obtain ⟨ad279,e279,p279,q279,hx279_0,hx279_1,hx279_2,hx279_3⟩ := aT56 HR0 HB x3_1
   cases e279
   go_wp2
   go_roundg k3
   case measure => have := HK1.out;have := HJ2.out;have := HK3.out;omega
   case rel => exact ⟨(wrap64 (x3_1 + 1)),qS,H',⟨by have := HK1.out;have := HJ2.out;have := HK3.out;omega⟩,⟨qB⟩⟩
  obtain ⟨c14b0,H⟩ := spN H
  obtain ⟨t281,A16,H⟩ := bdA H
  by_cases c17 : t281 = true
  ·subst c17
   rw [if_pos rfl] at H
   have H' := Aside0.mk H
   clear H
   obtain ⟨ad279,e279,p279,q279,hx279_0,hx279_1,hx279_2,hx279_3⟩ := aT56 HR0 HB x3_1
   cases e279
   obtain ⟨ad280,e280,p280,q280,hx280_0,hx280_1,hx280_2,hx280_3⟩ := aT56 HR0 HB x3_1
   obtain rfl : ad279 = ad280 := (by injection e280)
   have p15 : 0 ≤ (x4_3 : Int) := qD
   have q15 : x4_3 < (((zaA l0 x3_1).f1).size : Int) := qD
   have hx15 := zfI ((zaA l0 x3_1).f1) x4_3
   replace p15 := eq_true p15
   replace q15 := eq_true q15
   go_wp2_with (first | ((with_reducible refine zaE (f := 34) rfl ?_);refine zaL (some 76) rfl rfl Try.func34 (by kernel_rfl) rfl #[.int .u8 (bt ((zaA l0 x3_1).f1) x4_3)] rfl qM ?_;(with_reducible refine (stylusref01_Is.calls k3 (bt ((zaA l0 x3_1).f1) x4_3) true _ A16.out).mono ?_);rintro e w' ⟨rfl,⟨nd,rfl⟩⟩;refine ⟨_,rfl,?_⟩))
   go_roundg k3
   case measure => have := HK1.out;have := HJ2.out;have := HK3.out;omega
   case rel => exact ⟨(wrap64 (x4_3 + 1)),qS,H',⟨by have := HK1.out;have := HJ2.out;have := HK3.out;omega⟩,⟨qB⟩⟩
  replace c17 := Bool.eq_false_iff.mpr c17
  subst c17
  rw [if_neg nft] at H
  obtain ⟨t283,A19,H⟩ := bdA H
  by_cases c20 : t283 = true
  ·subst c20
   rw [if_pos rfl] at H
   have H' := Aside0.mk H
   clear H
   obtain ⟨ad279,e279,p279,q279,hx279_0,hx279_1,hx279_2,hx279_3⟩ := aT56 HR0 HB x3_1
   cases e279
   obtain ⟨ad280,e280,p280,q280,hx280_0,hx280_1,hx280_2,hx280_3⟩ := aT56 HR0 HB x3_1
   obtain rfl : ad279 = ad280 := (by injection e280)
   have p15 : 0 ≤ (x4_3 : Int) := qD
   have q15 : x4_3 < (((zaA l0 x3_1).f1).size : Int) := qD
   have hx15 := zfI ((zaA l0 x3_1).f1) x4_3
   replace p15 := eq_true p15
   replace q15 := eq_true q15
   go_wp2_with (first | ((with_reducible refine zaE (f := 34) rfl ?_);refine zaL (some 76) rfl rfl Try.func34 (by kernel_rfl) rfl #[.int .u8 (bt ((zaA l0 x3_1).f1) x4_3)] rfl qM ?_;(with_reducible refine (stylusref01_Is.calls k3 (bt ((zaA l0 x3_1).f1) x4_3) false _ A16.out).mono ?_);rintro e w' ⟨rfl,⟨nd,rfl⟩⟩;refine ⟨_,rfl,?_⟩;have p282 : 0 ≤ (x3_1 : Int) := qD;have q282 : x3_1 < (l0.length : Int) := qD;obtain ⟨ad282,e282,hx282_0,hx282_1,hx282_2,hx282_3⟩ := zeN HR0.out x3_1 p282 q282;obtain rfl : ad279 = ad282 := (by injection e282);replace hx282_0 := qH HB hx282_0;replace hx282_1 := qH HB hx282_1;replace hx282_2 := qH HB hx282_2;replace hx282_3 := qH HB hx282_3;replace p282 := eq_true p282;replace q282 := eq_true q282;have p18 : 0 ≤ (x4_3 : Int) := qD;have q18 : x4_3 < (((zaA l0 x3_1).f1).size : Int) := qD;have hx18 := zfI ((zaA l0 x3_1).f1) x4_3;replace p18 := eq_true p18;replace q18 := eq_true q18) | (go_at_call 84;(with_reducible refine (stylusref01_White.calls (bt ((zaA l0 x3_1).f1) x4_3) true _ A19.out).mono ?_);rintro e w' ⟨rfl,⟨nd,rfl⟩⟩))
   go_roundg k3
   case measure => have := HK1.out;have := HJ2.out;have := HK3.out;omega
   case rel => exact ⟨(wrap64 (x4_3 + 1)),qS,H',⟨by have := HK1.out;have := HJ2.out;have := HK3.out;omega⟩,⟨qB⟩⟩
  replace c20 := Bool.eq_false_iff.mpr c20
  subst c20
  rw [if_neg nft] at H
  obtain rfl := Option.some.inj H
  obtain ⟨ad279,e279,p279,q279,hx279_0,hx279_1,hx279_2,hx279_3⟩ := aT56 HR0 HB x3_1
  cases e279
  obtain ⟨ad280,e280,p280,q280,hx280_0,hx280_1,hx280_2,hx280_3⟩ := aT56 HR0 HB x3_1
  obtain rfl : ad279 = ad280 := (by injection e280)
  have p15 : 0 ≤ (x4_3 : Int) := qD
  have q15 : x4_3 < (((zaA l0 x3_1).f1).size : Int) := qD
  have hx15 := zfI ((zaA l0 x3_1).f1) x4_3
  replace p15 := eq_true p15
  replace q15 := eq_true q15
  go_wp2_with (first | ((with_reducible refine zaE (f := 34) rfl ?_);refine zaL (some 76) rfl rfl Try.func34 (by kernel_rfl) rfl #[.int .u8 (bt ((zaA l0 x3_1).f1) x4_3)] rfl qM ?_;(with_reducible refine (stylusref01_Is.calls k3 (bt ((zaA l0 x3_1).f1) x4_3) false _ A16.out).mono ?_);rintro e w' ⟨rfl,⟨nd,rfl⟩⟩;refine ⟨_,rfl,?_⟩;have p282 : 0 ≤ (x3_1 : Int) := qD;have q282 : x3_1 < (l0.length : Int) := qD;obtain ⟨ad282,e282,hx282_0,hx282_1,hx282_2,hx282_3⟩ := zeN HR0.out x3_1 p282 q282;obtain rfl : ad279 = ad282 := (by injection e282);replace hx282_0 := qH HB hx282_0;replace hx282_1 := qH HB hx282_1;replace hx282_2 := qH HB hx282_2;replace hx282_3 := qH HB hx282_3;replace p282 := eq_true p282;replace q282 := eq_true q282;have p18 : 0 ≤ (x4_3 : Int) := qD;have q18 : x4_3 < (((zaA l0 x3_1).f1).size : Int) := qD;have hx18 := zfI ((zaA l0 x3_1).f1) x4_3;replace p18 := eq_true p18;replace q18 := eq_true q18) | (go_at_call 84;(with_reducible refine (stylusref01_White.calls (bt ((zaA l0 x3_1).f1) x4_3) false _ A19.out).mono ?_);rintro e w' ⟨rfl,⟨nd,rfl⟩⟩))
  go_ret
  exact ⟨qE,qB⟩
 obtain ⟨⟨t284,t285⟩,A21,H⟩ := bdA H
 dsimp only at H
 by_cases c22 : t285 = true
 rotate_left
 ·replace c22 := Bool.eq_false_iff.mpr c22
  subst c22
  rw [if_neg nft] at H
  obtain rfl := Option.some.inj H
  go_wp2_with (first | ((with_reducible refine zaE (f := 107) rfl ?_);refine zaL (some 93) rfl rfl Try.func107 (by kernel_rfl) rfl #[.slice A0 l0.length c0,.int .i64 0,.int .i64 (l0.length : Int)] rfl qM ?_;(with_reducible refine (stylusref04_events.calls k1 _ _ l0 0 (l0.length : Int) t284 false _ ?side1 ?side2 A21.out).mono ?_);(case side1 => exact qC ((Kd.C_below HR0.out HB.out)));(case side2 => exact HC0.out);rintro e w64 ⟨v286,rfl,ho0,hb⟩;refine ⟨_,rfl,?_⟩;obtain ⟨_,_⟩ := a2 (Kd.R_lower ho0 (zaF qB)) (zaD qB hb);clear HB;rename_i HO287 HB;(try clear hb);(try clear hb2);(try clear hk);(try clear hi);(try clear ho0)))
  go_ret
  exact ⟨qE,qB⟩
 subst c22
 rw [if_pos rfl] at H
 have H' := Aside0.mk H
 clear H
 go_wp2_with (first | ((with_reducible refine zaE (f := 107) rfl ?_);refine zaL (some 93) rfl rfl Try.func107 (by kernel_rfl) rfl #[.slice A0 l0.length c0,.int .i64 0,.int .i64 (l0.length : Int)] rfl qM ?_;(with_reducible refine (stylusref04_events.calls k1 _ _ l0 0 (l0.length : Int) t284 true _ ?side1 ?side2 A21.out).mono ?_);(case side1 => exact qC ((Kd.C_below HR0.out HB.out)));(case side2 => exact HC0.out);rintro e w23 ⟨v286,rfl,ho0,hb⟩;refine ⟨_,rfl,?_⟩;obtain ⟨_,_⟩ := a2 (Kd.R_lower ho0 (zaF qB)) (zaD qB hb);clear HB;rename_i HO287 HB;(try clear hb);(try clear hb2);(try clear hk);(try clear hi);(try clear ho0)))
 go_loopg [7,8,9] k1 (fun kq v7 v8 v9 w' => ∃ (x7_2 : Int) (x8_2 : Int) (x9_2 : Int),v7 = .int .i64 x7_2 ∧ v8 = .int .i64 x8_2 ∧ v9 = .int .i64 x9_2 ∧ Aside0 (zbQ kq t284 x7_2 x8_2 x9_2 = some r) ∧ Aside0 (kq ≤ k1) ∧ Aside0 (Kd.R k47 47 w' w.heap.size (fun _ => True) v286 t284) ∧ Aside0 (Below w.heap.size w w'))
 case atStart => exact ⟨(0),(0),(0),qS,qS,qS,H',⟨Nat.le_refl _⟩,⟨qR HO287⟩,⟨qB⟩⟩
 clear H'
 obtain ⟨x7_2,x8_2,x9_2,rfl,rfl,rfl,HA,HK2,HO_5,HB⟩ := hrel
 cases gk with
 | zero => exact absurd HA.out (by simp [zbQ])
 | succ k2 =>
 have H := HA.out
 clear HA
 simp only [zbQ] at H
 obtain ⟨c24b0,H⟩ | ⟨c24b0,H⟩ := spD H
 rotate_left
 ·obtain ⟨c59b0,H⟩ | ⟨c59b0,H⟩ := spDg H
  ·obtain rfl := Option.some.inj H
   obtain ⟨Ao60,co60,eo60⟩ := Kd.R_slice HO_5.out
   subst eo60
   go_wp2
   go_ret
   exact ⟨qE,qB⟩
  obtain ⟨c61b0,H⟩ | ⟨c61b0,H⟩ := spDg H
  ·obtain rfl := Option.some.inj H
   obtain ⟨Ao62,co62,eo62⟩ := Kd.R_slice HO_5.out
   subst eo62
   go_wp2
   go_ret
   exact ⟨qE,qB⟩
  obtain rfl := Option.some.inj H
  obtain ⟨Ao63,co63,eo63⟩ := Kd.R_slice HO_5.out
  subst eo63
  go_wp2
  go_ret
  exact ⟨qE,qB⟩
 obtain ⟨c25,H⟩ := spG H
 have c25b0 := eq_true c25
 have c25b1 : decide (0 ≤ x9_2) = true := decide_eq_true c25
 clear c25
 obtain ⟨c26,H⟩ := spG H
 have c26b0 := eq_true c26
 have c26b1 : decide (x9_2 ≤ (t284.length : Int)) = true := decide_eq_true c26
 clear c26
 obtain ⟨y288,hy288⟩ : ∃ y_ : List (S47),y_ = (t284.take (x9_2 : Int).toNat) := ⟨_,rfl⟩
 replace H : ((stylusref04_Read.f y288).bind fun bt292 => (if ((zaI t284 x9_2).f0) = 1 then ((stylusref04_Texts.f k2 bt292.2).bind fun t299 => (zcV k2 t284 x7_2 x8_2 x9_2 bt292.1 bt292.2 (!t299))) else (zcV k2 t284 x7_2 x8_2 x9_2 bt292.1 bt292.2 false))) = some r := by first | (rw [hy288];with_reducible exact H) | (have H2_ := (Option.bind_some _ _).symm.trans H;rw [hy288];with_reducible exact H2_) | (have H2_ := (Option.bind_some _ _).symm.trans H;with_reducible exact H2_) | with_reducible exact H | (rw [hy288];exact H) | exact H
 have Ny288 := Aside0.mk hy288
 clear hy288
 obtain ⟨⟨t292,t293⟩,A27,H⟩ := bdA H
 dsimp only at H
 have HC28 := Aside0.mk H
 clear H
 obtain ⟨Ao29,co29,eo29⟩ := Kd.R_slice HO_5.out
 subst eo29
 have q30 : (x9_2 : Int) ≤ ((t284.length : Int) : Int) := qD
 obtain ⟨i030,hi030,_,hsz30,_⟩ := info_parts zhR
 have hroom30 : t284.length ≤ co29 := (Kd.R_reads' HO_5.out).2.1
 have hC30 : Kd.C k47 _ Ao29 t284.length t284 := (Kd.R_reads' HO_5.out).2.2
 have hcut30 := ztD (P := Try.prog) 41 47 .i64 Try.underlying41 hi030 Ao29 t284.length co29 x9_2 qD q30 hroom30
 have hr30 := Kd.C_take (m := (x9_2 : Int).toNat) hC30 (by omega)
 have hy30 : y288.length = (x9_2 : Int).toNat := (by rw [Ny288.out,List.length_take];omega)
 rw [← Ny288.out] at hr30
 rw [← hy30] at hcut30
 have HR291 := Aside0.mk hr30
 have HC291 := Aside0.mk (show y288.length ≤ co29 from by omega)
 clear hr30 hC30 hroom30 hi030 hsz30
 have KY30 := Aside0.mk hy30
 clear hy30
 have KL30 := Aside0.mk (show (x9_2 : Int).toNat ≤ t284.length from by omega)
 replace q30 := eq_true q30
 go_upto_region 19 with (first | ((with_reducible refine zaE (f := 95) rfl ?_);refine zaL (some 108) rfl rfl Try.func95 (by kernel_rfl) rfl #[.slice Ao29 y288.length co29] rfl qM ?_;(with_reducible refine (stylusref04_Read.calls _ _ y288 t292 t293 _ ?side1 ?side2 A27.out).mono ?_);(case side1 => repeat (first | exact (by exact qC HR291.out) | (with_reducible refine Kd.C_alloc ?_ _) | (with_reducible refine Kd.C_drewN ?_ _) | (with_reducible refine Kd.C_drew ?_)));(case side2 => exact HC291.out);rintro e w31 ⟨v294,v296,rfl,ho0,ho1,hb⟩;refine ⟨_,rfl,?_⟩;obtain ⟨_,_,_,_,_⟩ := a5 (Kd.R_below (qR HO_5) hb) (Kd.R_lower ho0 (zaF qB)) (Kd.R_lower ho1 (zaF qB)) (Kd.C_below (by exact qC HR291.out) hb) (zaD qB hb);clear HO_5 HR291 HB;rename_i HO_5 HO295 HO297 HR291 HB;(try clear hb);(try clear hb2);(try clear hk);(try clear hi);(try clear ho0);(try clear ho1)))
 (try simp only [Act.put,szz])
 go_cut [121] (fun v121 wc => ∃ (kq : Nat) (x121_27 : Bool),v121 = .bool x121_27 ∧ Aside0 (zcV kq t284 x7_2 x8_2 x9_2 t292 t293 x121_27 = some r) ∧ Aside0 (kq ≤ k2) ∧ Aside0 (Kd.R k47 47 wc w.heap.size (fun _ => True) (.slice Ao29 t284.length co29) t284) ∧ Aside0 (Kd.R k56 56 wc w.heap.size (fun _ => True) v294 t292) ∧ Aside0 (Kd.R k159 159 wc w.heap.size (fun _ => True) v296 t293) ∧ Aside0 (Kd.C k47 wc Ao29 y288.length y288) ∧ Aside0 (Below w.heap.size w wc))
 case first =>
  have H := HC28.out
  clear HC28
  obtain ⟨c32b0,c32b1,H⟩ | ⟨c32b0,c32b1,H⟩ := spE H
  ·(first | rw [c32b0] | (simp only [zaO,zaR];rw [c32b0]) | skip)
   obtain ⟨t299,A33,H⟩ := bdA H
   have H' := Aside0.mk H
   clear H
   obtain ⟨ad298,e298,p298,q298,hx298_0,hx298_1,hx298_2,hx298_3⟩ := bT47 (Kd.R_reads' HO_5.out).2.2 x9_2
   cases e298
   obtain ⟨Ao34,co34,eo34⟩ := Kd.R_slice HO297.out
   subst eo34
   go_wp2_with (first | (go_at_call 108;(with_reducible refine (stylusref04_Texts.calls k2 _ _ t293 t299 _ ?side1 ?side2 A33.out).mono ?_);(case side1 => exact qC ((Kd.R_reads' HO297.out).2.2));(case side2 => exact (Kd.R_reads' HO297.out).2.1);rintro e w35 ⟨rfl,hb⟩;obtain ⟨_,_,_,_,_⟩ := a5 (Kd.R_below (qR HO_5) hb) (Kd.R_below (qR HO295) hb) (Kd.R_below (qR HO297) hb) (Kd.C_below (by exact qC HR291.out) hb) (zaD qB hb);clear HO_5 HO295 HO297 HR291 HB;rename_i HO_5 HO295 HO297 HR291 HB;(try clear hb);(try clear hb2);(try clear hk);(try clear hi)))
   go_meet
   case rel => exact ⟨_,(!t299),qS,H',⟨by have := HK1.out;have := HK2.out;first | omega | exact Nat.le_refl _⟩,⟨qR HO_5⟩,⟨qR HO295⟩,⟨qR HO297⟩,⟨by exact qC HR291.out⟩,⟨qB⟩⟩
  (first | rw [c32b0] | (simp only [zaO,zaR];rw [c32b0]) | skip)
  have H' := Aside0.mk H
  clear H
  obtain ⟨ad298,e298,p298,q298,hx298_0,hx298_1,hx298_2,hx298_3⟩ := bT47 (Kd.R_reads' HO_5.out).2.2 x9_2
  cases e298
  go_wp2
  go_meet
  case rel => exact ⟨_,(false),qS,H',⟨by have := HK1.out;have := HK2.out;first | omega | exact Nat.le_refl _⟩,⟨qR HO_5⟩,⟨qR HO295⟩,⟨qR HO297⟩,⟨by exact qC HR291.out⟩,⟨qB⟩⟩
 clear HC28
 obtain ⟨kq,x121_27,rfl,HA,HJ27,HO_5,HO_10,HO_11,HR291,HB⟩ := hcut
 cases kq with
 | zero => exact absurd HA.out (by simp [zcV])
 | succ kj27 =>
 have H := HA.out
 clear HA
 simp only [zcV] at H
 by_cases c36 : x121_27 = true
 ·subst c36
  rw [if_pos rfl] at H
  obtain rfl := Option.some.inj H
  go_wp2
  go_ret
  exact ⟨qE,qB⟩
 replace c36 := Bool.eq_false_iff.mpr c36
 subst c36
 rw [if_neg nft] at H
 obtain ⟨c37b0,H⟩ := spN H
 obtain ⟨c38b0,H⟩ := spN H
 obtain ⟨⟨t301,t302⟩,A39,H⟩ := bdA H
 dsimp only at H
 obtain ⟨c40b0,c40b1,H⟩ | ⟨c40b0,c40b1,H⟩ := spE H
 ·obtain rfl := Option.some.inj H
  obtain ⟨ad300,e300,p300,q300,hx300_0,hx300_1,hx300_2,hx300_3⟩ := bT47 (Kd.R_reads' HO_5.out).2.2 x9_2
  cases e300
  obtain ⟨Ao41,co41,eo41⟩ := Kd.R_slice HO_10.out
  subst eo41
  obtain ⟨Ao42,co42,eo42⟩ := Kd.R_slice HO_11.out
  subst eo42
  go_wp2_with (first | ((with_reducible refine zaE (f := 96) rfl ?_);refine zaL (some 129) rfl rfl Try.func96 (by kernel_rfl) rfl #[.slice Ao41 t292.length co41,.slice Ao42 t293.length co42,.agg #[.int .i64 ((zaI t284 x9_2).f0),.int .u8 ((zaI t284 x9_2).f1),.string ((zaI t284 x9_2).f2),.int .i64 ((zaI t284 x9_2).f3)]] rfl qM ?_;(with_reducible refine (stylusref04_Step.calls kj27 _ _ t292 _ _ t293 ((zaI t284 x9_2).f0) ((zaI t284 x9_2).f1) ((zaI t284 x9_2).f2) ((zaI t284 x9_2).f3) t301 t302 _ ?side1 ?side2 ?side3 ?side4 A39.out).mono ?_);(case side1 => exact qC ((Kd.R_reads' HO_10.out).2.2));(case side2 => exact (Kd.R_reads' HO_10.out).2.1);(case side3 => exact qC ((Kd.R_reads' HO_11.out).2.2));(case side4 => exact (Kd.R_reads' HO_11.out).2.1);rintro e w43 ⟨rfl,hb⟩;refine ⟨_,rfl,?_⟩;obtain ⟨_,_,_,_,_⟩ := a5 (Kd.R_below (qR HO_5) hb) (Kd.R_below (qR HO_10) hb) (Kd.R_below (qR HO_11) hb) (Kd.C_below (by exact qC HR291.out) hb) (zaD qB hb);clear HO_5 HO_10 HO_11 HR291 HB;rename_i HO_5 HO_10 HO_11 HR291 HB;(try clear hb);(try clear hb2);(try clear hk);(try clear hi)))
  go_ret
  exact ⟨qE,qB⟩
 obtain ⟨c44b0,c44b1,H⟩ | ⟨c44b0,c44b1,H⟩ := spE H
 ·obtain ⟨c45b0,c45b1,H⟩ | ⟨c45b0,c45b1,H⟩ := spE H
  ·have H' := Aside0.mk H
   clear H
   obtain ⟨ad300,e300,p300,q300,hx300_0,hx300_1,hx300_2,hx300_3⟩ := bT47 (Kd.R_reads' HO_5.out).2.2 x9_2
   cases e300
   obtain ⟨Ao46,co46,eo46⟩ := Kd.R_slice HO_10.out
   subst eo46
   obtain ⟨Ao47,co47,eo47⟩ := Kd.R_slice HO_11.out
   subst eo47
   go_wp2_with (first | ((with_reducible refine zaE (f := 96) rfl ?_);refine zaL (some 129) rfl rfl Try.func96 (by kernel_rfl) rfl #[.slice Ao46 t292.length co46,.slice Ao47 t293.length co47,.agg #[.int .i64 ((zaI t284 x9_2).f0),.int .u8 ((zaI t284 x9_2).f1),.string ((zaI t284 x9_2).f2),.int .i64 ((zaI t284 x9_2).f3)]] rfl qM ?_;(with_reducible refine (stylusref04_Step.calls kj27 _ _ t292 _ _ t293 ((zaI t284 x9_2).f0) ((zaI t284 x9_2).f1) ((zaI t284 x9_2).f2) ((zaI t284 x9_2).f3) t301 t302 _ ?side1 ?side2 ?side3 ?side4 A39.out).mono ?_);(case side1 => exact qC ((Kd.R_reads' HO_10.out).2.2));(case side2 => exact (Kd.R_reads' HO_10.out).2.1);(case side3 => exact qC ((Kd.R_reads' HO_11.out).2.2));(case side4 => exact (Kd.R_reads' HO_11.out).2.1);rintro e w48 ⟨rfl,hb⟩;refine ⟨_,rfl,?_⟩;obtain ⟨_,_,_,_,_⟩ := a5 (Kd.R_below (qR HO_5) hb) (Kd.R_below (qR HO_10) hb) (Kd.R_below (qR HO_11) hb) (Kd.C_below (by exact qC HR291.out) hb) (zaD qB hb);clear HO_5 HO_10 HO_11 HR291 HB;rename_i HO_5 HO_10 HO_11 HR291 HB;(try clear hb);(try clear hb2);(try clear hk);(try clear hi)))
   go_roundg kj27
   case measure => have := HK1.out;have := HK2.out;have := HJ27.out;omega
   case rel => exact ⟨(wrap64 (x7_2 + 1)),(wrap64 (x8_2 + 1)),(wrap64 (x9_2 + 1)),qS,qS,qS,H',⟨by have := HK1.out;have := HK2.out;have := HJ27.out;omega⟩,⟨qR HO_5⟩,⟨qB⟩⟩
  have H' := Aside0.mk H
  clear H
  obtain ⟨ad300,e300,p300,q300,hx300_0,hx300_1,hx300_2,hx300_3⟩ := bT47 (Kd.R_reads' HO_5.out).2.2 x9_2
  cases e300
  obtain ⟨Ao49,co49,eo49⟩ := Kd.R_slice HO_10.out
  subst eo49
  obtain ⟨Ao50,co50,eo50⟩ := Kd.R_slice HO_11.out
  subst eo50
  go_wp2_with (first | ((with_reducible refine zaE (f := 96) rfl ?_);refine zaL (some 129) rfl rfl Try.func96 (by kernel_rfl) rfl #[.slice Ao49 t292.length co49,.slice Ao50 t293.length co50,.agg #[.int .i64 ((zaI t284 x9_2).f0),.int .u8 ((zaI t284 x9_2).f1),.string ((zaI t284 x9_2).f2),.int .i64 ((zaI t284 x9_2).f3)]] rfl qM ?_;(with_reducible refine (stylusref04_Step.calls kj27 _ _ t292 _ _ t293 ((zaI t284 x9_2).f0) ((zaI t284 x9_2).f1) ((zaI t284 x9_2).f2) ((zaI t284 x9_2).f3) t301 t302 _ ?side1 ?side2 ?side3 ?side4 A39.out).mono ?_);(case side1 => exact qC ((Kd.R_reads' HO_10.out).2.2));(case side2 => exact (Kd.R_reads' HO_10.out).2.1);(case side3 => exact qC ((Kd.R_reads' HO_11.out).2.2));(case side4 => exact (Kd.R_reads' HO_11.out).2.1);rintro e w51 ⟨rfl,hb⟩;refine ⟨_,rfl,?_⟩;obtain ⟨_,_,_,_,_⟩ := a5 (Kd.R_below (qR HO_5) hb) (Kd.R_below (qR HO_10) hb) (Kd.R_below (qR HO_11) hb) (Kd.C_below (by exact qC HR291.out) hb) (zaD qB hb);clear HO_5 HO_10 HO_11 HR291 HB;rename_i HO_5 HO_10 HO_11 HR291 HB;(try clear hb);(try clear hb2);(try clear hk);(try clear hi)))
  go_roundg kj27
  case measure => have := HK1.out;have := HK2.out;have := HJ27.out;omega
  case rel => exact ⟨(wrap64 (x7_2 + 1)),(x8_2),(wrap64 (x9_2 + 1)),qS,qS,qS,H',⟨by have := HK1.out;have := HK2.out;have := HJ27.out;omega⟩,⟨qR HO_5⟩,⟨qB⟩⟩
 obtain ⟨c52b0,c52b1,H⟩ | ⟨c52b0,c52b1,H⟩ := spE H
 ·have H' := Aside0.mk H
  clear H
  obtain ⟨ad300,e300,p300,q300,hx300_0,hx300_1,hx300_2,hx300_3⟩ := bT47 (Kd.R_reads' HO_5.out).2.2 x9_2
  cases e300
  obtain ⟨Ao53,co53,eo53⟩ := Kd.R_slice HO_10.out
  subst eo53
  obtain ⟨Ao54,co54,eo54⟩ := Kd.R_slice HO_11.out
  subst eo54
  go_wp2_with (first | ((with_reducible refine zaE (f := 96) rfl ?_);refine zaL (some 129) rfl rfl Try.func96 (by kernel_rfl) rfl #[.slice Ao53 t292.length co53,.slice Ao54 t293.length co54,.agg #[.int .i64 ((zaI t284 x9_2).f0),.int .u8 ((zaI t284 x9_2).f1),.string ((zaI t284 x9_2).f2),.int .i64 ((zaI t284 x9_2).f3)]] rfl qM ?_;(with_reducible refine (stylusref04_Step.calls kj27 _ _ t292 _ _ t293 ((zaI t284 x9_2).f0) ((zaI t284 x9_2).f1) ((zaI t284 x9_2).f2) ((zaI t284 x9_2).f3) t301 t302 _ ?side1 ?side2 ?side3 ?side4 A39.out).mono ?_);(case side1 => exact qC ((Kd.R_reads' HO_10.out).2.2));(case side2 => exact (Kd.R_reads' HO_10.out).2.1);(case side3 => exact qC ((Kd.R_reads' HO_11.out).2.2));(case side4 => exact (Kd.R_reads' HO_11.out).2.1);rintro e w55 ⟨rfl,hb⟩;refine ⟨_,rfl,?_⟩;obtain ⟨_,_,_,_,_⟩ := a5 (Kd.R_below (qR HO_5) hb) (Kd.R_below (qR HO_10) hb) (Kd.R_below (qR HO_11) hb) (Kd.C_below (by exact qC HR291.out) hb) (zaD qB hb);clear HO_5 HO_10 HO_11 HR291 HB;rename_i HO_5 HO_10 HO_11 HR291 HB;(try clear hb);(try clear hb2);(try clear hk);(try clear hi)))
  go_roundg kj27
  case measure => have := HK1.out;have := HK2.out;have := HJ27.out;omega
  case rel => exact ⟨(x7_2),(wrap64 (x8_2 + 1)),(wrap64 (x9_2 + 1)),qS,qS,qS,H',⟨by have := HK1.out;have := HK2.out;have := HJ27.out;omega⟩,⟨qR HO_5⟩,⟨qB⟩⟩
 have H' := Aside0.mk H
 clear H
 obtain ⟨ad300,e300,p300,q300,hx300_0,hx300_1,hx300_2,hx300_3⟩ := bT47 (Kd.R_reads' HO_5.out).2.2 x9_2
 cases e300
 obtain ⟨Ao56,co56,eo56⟩ := Kd.R_slice HO_10.out
 subst eo56
 obtain ⟨Ao57,co57,eo57⟩ := Kd.R_slice HO_11.out
 subst eo57
 go_wp2_with (first | ((with_reducible refine zaE (f := 96) rfl ?_);refine zaL (some 129) rfl rfl Try.func96 (by kernel_rfl) rfl #[.slice Ao56 t292.length co56,.slice Ao57 t293.length co57,.agg #[.int .i64 ((zaI t284 x9_2).f0),.int .u8 ((zaI t284 x9_2).f1),.string ((zaI t284 x9_2).f2),.int .i64 ((zaI t284 x9_2).f3)]] rfl qM ?_;(with_reducible refine (stylusref04_Step.calls kj27 _ _ t292 _ _ t293 ((zaI t284 x9_2).f0) ((zaI t284 x9_2).f1) ((zaI t284 x9_2).f2) ((zaI t284 x9_2).f3) t301 t302 _ ?side1 ?side2 ?side3 ?side4 A39.out).mono ?_);(case side1 => exact qC ((Kd.R_reads' HO_10.out).2.2));(case side2 => exact (Kd.R_reads' HO_10.out).2.1);(case side3 => exact qC ((Kd.R_reads' HO_11.out).2.2));(case side4 => exact (Kd.R_reads' HO_11.out).2.1);rintro e w58 ⟨rfl,hb⟩;refine ⟨_,rfl,?_⟩;obtain ⟨_,_,_,_,_⟩ := a5 (Kd.R_below (qR HO_5) hb) (Kd.R_below (qR HO_10) hb) (Kd.R_below (qR HO_11) hb) (Kd.C_below (by exact qC HR291.out) hb) (zaD qB hb);clear HO_5 HO_10 HO_11 HR291 HB;rename_i HO_5 HO_10 HO_11 HR291 HB;(try clear hb);(try clear hb2);(try clear hk);(try clear hi)))
 go_roundg kj27
 case measure => have := HK1.out;have := HK2.out;have := HJ27.out;omega
 case rel => exact ⟨(x7_2),(x8_2),(wrap64 (x9_2 + 1)),qS,qS,qS,H',⟨by have := HK1.out;have := HK2.out;have := HJ27.out;omega⟩,⟨qR HO_5⟩,⟨qB⟩⟩
end Go.Proofs.Ythcmfjpheanphaa.Pr
namespace Go.Proofs.Ythcmfjpheanphaa.Pr
open Go.RowKit Go.Proofs.Ythcmfjpheanphaa.Pure Go.Proofs.YthcmfjpheanphaaW.PrintWords
def evOk : Nat → List S56 → Nat → Nat → Bool
 | 0,_,_,_ => true
 | n + 1,t,a,e => if a < e then (decide (1 ≤ (zaA t a).f3 ∧ (zaA t a).f3 ≤ (e : Int) - a) && (if (zaA t a).f0 = 46 then decide ((zaA t a).f3 = 1) && evOk n t (a + 1) e
   else evOk n t (a + 1) (a + (zaA t a).f3.toNat) && evOk n t (a + (zaA t a).f3.toNat) e)) else true
theorem zkO (t : List S56) : ∀ (n a e : Nat),e - a ≤ n → (evOk n t a e = true ↔ zeH t a e = true ∧ ∀ i,a ≤ i → i < e → (zaA t i).f0 = 46 → (zaA t i).f3 = 1)
 | 0,a,e,h => by
  rw [zjU t a e (by omega)]
  simp only [evOk,true_and,true_iff]
  intro i h1 h2
  omega
 | n + 1,a,e,h => by
  simp only [evOk]
  by_cases hlt : a < e
  ·rw [if_pos hlt,ziW t a e hlt]
   by_cases hc : 1 ≤ (zaA t a).f3 ∧ (zaA t a).f3 ≤ (e : Int) - a
   ·rw [if_pos hc,decide_eq_true hc,Bool.true_and]
    by_cases h46 : (zaA t a).f0 = 46
    ·rw [if_pos h46,Bool.and_eq_true,decide_eq_true_eq,zkO t n (a + 1) e (by omega)]
     constructor
     ·rintro ⟨h1,h2,h3⟩
      refine ⟨?_,fun i g1 g2 g3 => ?_⟩
      ·rw [h1,show a + Int.toNat 1 = a + 1 from rfl,zjU t (a + 1) (a + 1) (by omega),h2]
       rfl
      by_cases e1 : i = a
      ·subst e1;exact h1
      exact h3 i (by omega) g2 g3
     rintro ⟨h1,h2⟩
     have h3 := h2 a (Nat.le_refl _) hlt h46
     rw [h3,show a + Int.toNat 1 = a + 1 from rfl,Bool.and_eq_true] at h1
     exact ⟨h3,h1.2,fun i g1 g2 g3 => h2 i (by omega) g2 g3⟩
    rw [if_neg h46,Bool.and_eq_true,Bool.and_eq_true,zkO t n (a + 1) _ (by omega),zkO t n _ e (by omega)]
    constructor
    ·rintro ⟨⟨h1,h2⟩,h3,h4⟩
     refine ⟨⟨h1,h3⟩,fun i g1 g2 g3 => ?_⟩
     by_cases e1 : i = a
     ·subst e1;exact absurd g3 h46
     by_cases e2 : i < a + (zaA t a).f3.toNat
     ·exact h2 i (by omega) e2 g3
     exact h4 i (by omega) g2 g3
    rintro ⟨⟨h1,h3⟩,h2⟩
    exact ⟨⟨h1,fun i g1 g2 g3 => h2 i (by omega) (by omega) g3⟩,h3,fun i g1 g2 g3 => h2 i (by omega) g2 g3⟩
   rw [if_neg hc,decide_eq_false hc]
   simp
  rw [if_neg hlt,zjU t a e hlt]
  simp only [true_and,true_iff]
  intro i h1 h2
  omega
theorem zoG (t : List S56) : ∀ (n a e : Nat),a ≤ e → evOk n t a e = true → (evF n t a e).length ≤ 2 * (e - a)
 | 0,a,e,_,_ => Nat.zero_le _
 | n + 1,a,e,hae,h => by
  simp only [evOk] at h
  simp only [evF]
  by_cases hlt : a < e
  ·rw [if_pos hlt] at h ⊢
   rw [Bool.and_eq_true,decide_eq_true_eq] at h
   obtain ⟨hc,h⟩ := h
   by_cases h46 : (zaA t a).f0 = 46
   ·rw [if_pos h46] at h ⊢
    rw [Bool.and_eq_true] at h
    have := zoG t n (a + 1) e (by omega) h.2
    rw [List.length_cons]
    omega
   rw [if_neg h46] at h ⊢
   rw [Bool.and_eq_true] at h
   have h1 := zoG t n (a + 1) (a + (zaA t a).f3.toNat) (by omega) h.1
   have h2 := zoG t n (a + (zaA t a).f3.toNat) e (by omega) h.2
   rw [List.length_cons,List.length_append,List.length_cons]
   omega
  rw [if_neg hlt]
  exact Nat.zero_le _
def I64 (n : Int) : Prop := -9223372036854775808 ≤ n ∧ n ≤ 9223372036854775807
theorem zrQ (t : List S56) (hl : t.length ≤ 1000000) (hw : ∀ i,I64 (zaA t i).f3) : ∀ (n a e k : Nat) (acc : List S47),e - a ≤ n → a ≤ e → e ≤ t.length → 3 * n + 1 ≤ k → acc.length ≤ 2 * a →
  zcH k t a e acc = some (if evOk n t a e = true then (acc ++ evF n t a e,true) else ([],false))
 | 0,a,e,k,acc,h,hae,he,hk,hacc => by
  obtain ⟨k,rfl⟩ : ∃ q,k = q + 1 := ⟨k - 1,by omega⟩
  rw [zcH,if_neg (by omega)]
  simp [evOk,evF]
 | n + 1,a,e,k,acc,h,hae,he,hk,hacc => by
  obtain ⟨k,rfl⟩ : ∃ q,k = q + 2 := ⟨k - 2,by omega⟩
  rw [zcH]
  by_cases hlt : a < e
  ·rw [if_pos (by omega),if_pos (by omega),if_pos (by omega)]
   have hwa := hw a
   have hbad : ¬ (1 ≤ (zaA t a).f3 ∧ (zaA t a).f3 ≤ (e : Int) - a) → evOk (n + 1) t a e = false := fun hc => by
    simp only [evOk]
    rw [if_pos hlt,decide_eq_false hc,Bool.false_and]
   have hj : ∀ x4 x5 x6 x7,zcP (k + 1) t a e acc true x4 x5 x6 x7 = some ([],false) := fun x4 x5 x6 x7 => by
    rw [zcP,if_pos rfl]
   by_cases h1 : (zaA t a).f3 < 1
   ·rw [if_pos h1,hj,hbad (by omega)]
    rfl
   rw [if_neg h1]
   by_cases h2 : (zaA t a).f3 ≤ (e : Int) - a
   ·have hwr : wrap64 ((a : Int) + (zaA t a).f3) = ((a + (zaA t a).f3.toNat : Nat) : Int) := by
     rw [show (a : Int) + (zaA t a).f3 = ((a + (zaA t a).f3.toNat : Nat) : Int) from by omega]
     exact IntWalk.wrap64_in _ ⟨by omega,by omega⟩
    rw [hwr,if_neg (by omega),decide_eq_false (show ¬ ((a + (zaA t a).f3.toNat : Nat) : Int) < (a : Int) by omega)]
    rw [zcP,if_neg (by decide)]
    have hE : evOk (n + 1) t a e = (if (zaA t a).f0 = 46 then decide ((zaA t a).f3 = 1) && evOk n t (a + 1) e
      else evOk n t (a + 1) (a + (zaA t a).f3.toNat) && evOk n t (a + (zaA t a).f3.toNat) e) := by
     rw [evOk,if_pos hlt,decide_eq_true (show 1 ≤ (zaA t a).f3 ∧ (zaA t a).f3 ≤ (e : Int) - a from ⟨by omega,h2⟩),Bool.true_and]
    have hF : evF (n + 1) t a e = (if (zaA t a).f0 = 46 then zdP (zaA t a) :: evF n t (a + 1) e
      else zdP (zaA t a) :: (evF n t (a + 1) (a + (zaA t a).f3.toNat) ++ zfD :: evF n t (a + (zaA t a).f3.toNat) e)) := by
     rw [evF,if_pos hlt]
    rw [hE,hF]
    by_cases h46 : (zaA t a).f0 = 46
    ·rw [if_pos h46,if_pos h46,if_pos h46]
     have hnx : zdP (zaA t a) = ⟨1,0,(zaA t a).f1,0⟩ := by unfold zdP;rw [if_pos h46]
     by_cases h3 : (zaA t a).f3 = 1
     ·rw [if_pos h3,if_pos (by omega),decide_eq_true h3,Bool.true_and,hwr,show a + (zaA t a).f3.toNat = a + 1 from by omega]
      rw [zrQ t hl hw n (a + 1) e k _ (by omega) (by omega) he (by omega) (by simp;omega),hnx,List.append_assoc]
      rfl
     rw [if_neg h3,decide_eq_false h3,Bool.false_and]
     rfl
    rw [if_neg h46,if_neg h46,if_neg h46,hwr,zgD (by omega)]
    have hnx : zdP (zaA t a) = ⟨2,(zaA t a).f0,⟨#[]⟩,0⟩ := by unfold zdP;rw [if_neg h46]
    have hin : stylusref04_events.f k t ((a + 1 : Nat) : Int) ((a + (zaA t a).f3.toNat : Nat) : Int) = some (if evOk n t (a + 1) (a + (zaA t a).f3.toNat) = true then (evF n t (a + 1) (a + (zaA t a).f3.toNat),true) else ([],false)) := by
     obtain ⟨k,rfl⟩ : ∃ q,k = q + 1 := ⟨k - 1,by omega⟩
     rw [stylusref04_events.f,zrQ t hl hw n (a + 1) _ k [] (by omega) (by omega) (by omega) (by omega) (by simp)]
     rfl
    rw [hin,Option.bind_some]
    by_cases h5 : evOk n t (a + 1) (a + (zaA t a).f3.toNat) = true
    ·have hlen := zoG t n (a + 1) (a + (zaA t a).f3.toNat) (by omega) h5
     rw [if_pos h5,if_pos rfl,if_pos (by omega),Option.bind_some,if_pos (by simp only [List.length_append,List.length_singleton];omega),Option.bind_some,
      if_pos (by simp only [List.length_append,List.length_singleton];omega)]
     rw [zrQ t hl hw n (a + (zaA t a).f3.toNat) e k _ (by omega) (by omega) he (by omega) (by simp only [List.length_append,List.length_singleton];omega),h5,Bool.true_and,hnx]
     simp only [List.append_assoc,List.singleton_append,List.cons_append]
     rfl
    rw [if_neg h5,if_neg (by decide)]
    rw [Bool.eq_false_iff.mpr h5,Bool.false_and]
    rfl
   rw [hbad (by omega)]
   by_cases h3 : (a : Int) + (zaA t a).f3 ≤ 9223372036854775807
   ·rw [IntWalk.wrap64_in _ ⟨by have := hwa.1;omega,h3⟩,if_pos (by omega),hj]
    rfl
   have hneg : wrap64 ((a : Int) + (zaA t a).f3) < 0 := by
    have := hwa.2
    unfold wrap64
    omega
   rw [if_neg (by omega),decide_eq_true (show wrap64 ((a : Int) + (zaA t a).f3) < (a : Int) by omega),hj]
   rfl
  rw [if_neg (by omega)]
  simp [evOk,evF,hlt]
theorem ybH (t : List S56) (hl : t.length ≤ 1000000) (hw : ∀ i,I64 (zaA t i).f3) (k : Nat) (hk : 3 * t.length + 2 ≤ k) :
  stylusref04_events.f k t 0 (t.length : Int) = some (if evOk t.length t 0 t.length = true then (evF t.length t 0 t.length,true) else ([],false)) := by
 obtain ⟨k,rfl⟩ : ∃ q,k = q + 1 := ⟨k - 1,by omega⟩
 rw [stylusref04_events.f]
 have := zrQ t hl hw t.length 0 t.length k [] (by omega) (by omega) (by omega) (by omega) (by simp)
 rw [List.nil_append] at this
 exact this
def zkY (x : S56) : Bool := if x.f0 = 46 then decide (0 < x.f1.size) && !decide (zaT x.f1 x.f1.size 0 < x.f1.size) else decide (x.f1.size = 0) && decide (0 < (zjR x.f0).size)
theorem zkZ (x : S56) : zdS x = (zkY x && (if x.f0 = 46 then x.f3 == 1 else true)) := by
 unfold zdS zkY zhF
 by_cases h : x.f0 = 46
 ·rw [if_pos h,if_pos h,if_pos h]
  have e : decide (0 ≤ if zaT x.f1 x.f1.size 0 < x.f1.size then ((zaT x.f1 x.f1.size 0 : Nat) : Int) else -1) = decide (zaT x.f1 x.f1.size 0 < x.f1.size) := by
   by_cases h2 : zaT x.f1 x.f1.size 0 < x.f1.size
   ·rw [if_pos h2,decide_eq_true h2,decide_eq_true (by omega)]
   rw [if_neg h2,decide_eq_false h2];rfl
  rw [e]
  cases decide (0 < x.f1.size) <;> cases (x.f3 == 1) <;> cases decide (zaT x.f1 x.f1.size 0 < x.f1.size) <;> rfl
 rw [if_neg h,if_neg h,if_neg h,Bool.and_true]
theorem ybI : ∀ n : Fin 256,stylusref03_Name.f 20 (n.val : Int) = some (zjR (n.val : Int)) := by decide +kernel
theorem ygO (c : Int) (h0 : 0 ≤ c) (h1 : c ≤ 255) (k : Nat) (hk : 20 ≤ k) : stylusref03_Name.f k c = some (zjR c) := by
 have h := ybI ⟨c.toNat,by omega⟩
 simp only [Int.toNat_of_nonneg h0] at h
 exact zpJ (fun k => stylusref03_Name.mono c k) hk h
theorem znH (b : ByteArray) : b.toList = ([] : List UInt8) ↔ b.size = 0 := by
 have := ziM b
 rw [Bool.eq_iff_iff,beq_iff_eq,decide_eq_true_eq] at this
 exact this
theorem ygP (t : List S56) (i : Nat) (hi : i < t.length) (hl : t.length ≤ 1000000) (hz : (zaA t i).f1.size ≤ 1000000) (K : Nat) (R : Int) (hR : ∀ k,K ≤ k → zcC k t ((i + 1 : Nat) : Int) = some R) : ∀ (d j k : Nat),d + j = (zaA t i).f1.size → K + d + 25 ≤ k →
  zcN k t i j = some (if zaT (zaA t i).f1 d j < (zaA t i).f1.size then 2 else R)
 | 0,j,k,h,hk => by
  obtain ⟨k,rfl⟩ : ∃ q,k = q + 1 := ⟨k - 1,by omega⟩
  rw [zcN,if_pos (by omega),if_pos (by omega),if_neg (by omega),zgD (by omega),hR k (by omega)]
  rw [show zaT (zaA t i).f1 0 j = j from rfl,if_neg (by omega)]
 | d + 1,j,k,h,hk => by
  obtain ⟨k,rfl⟩ : ∃ q,k = q + 1 := ⟨k - 1,by omega⟩
  have hr := zfZ (zaA t i).f1 (j : Int)
  obtain ⟨g1,g2,g3,g4⟩ := is_at (bt (zaA t i).f1 (j : Int)) hr.1 hr.2 k (by omega)
  rw [zcN,if_pos (by omega),if_pos (by omega),if_pos (by omega),if_pos (by omega),g1,Option.bind_some]
  have hstep : zaT (zaA t i).f1 (d + 1) j = if zcX (bt (zaA t i).f1 (j : Int)) = true then zaT (zaA t i).f1 d (j + 1) else j := by
   rw [zaT]
   by_cases hp : zcX (bt (zaA t i).f1 (j : Int)) = true
   ·rw [if_pos ⟨by omega,hp⟩,if_pos hp]
   rw [if_neg (fun e => hp e.2),if_neg hp]
  rw [hstep,g3]
  have hgo := ygP t i hi hl hz K R hR d (j + 1) k (by omega) (by omega)
  by_cases h1 : isB (bt (zaA t i).f1 (j : Int)) = true
  ·rw [if_pos h1,zgD (by omega),hgo,h1,Bool.true_or,if_pos rfl]
  rw [if_neg h1,g2,Option.bind_some,Bool.eq_false_iff.mpr h1,Bool.false_or]
  by_cases h2 : zdA (bt (zaA t i).f1 (j : Int)) = true
  ·rw [if_pos h2,zgD (by omega),hgo,if_pos h2]
  rw [if_neg h2,if_neg h2,if_pos (by omega)]
theorem zuY (k : Nat) (t : List S56) (i : Nat) (b : Bool) : zcU (k + 1) t i b = if b = true then some 2 else zcN k t i 0 := by
 rw [zcU]
theorem ygQ (t : List S56) (hl : t.length ≤ 1000000) (hz : ∀ x ∈ t,x.f1.size ≤ 1000000 ∧ 0 ≤ x.f0 ∧ x.f0 ≤ 255) (M : Nat) (hM : ∀ x ∈ t,x.f1.size + 40 ≤ M) (K : Nat) (R : Int)
  (hR : ∀ k,K ≤ k → ((stylusref04_events.f k t 0 (t.length : Int)).bind fun bt284 => (if bt284.2 = true then (zbQ k bt284.1 0 0 0) else (some 2))) = some R) : ∀ (d i k : Nat),d + i = t.length → K + d * M + 1 ≤ k →
  zcC k t i = some (if ((t.drop i).all zkY) = true then R else 2)
 | 0,i,k,h,hk => by
  obtain ⟨k,rfl⟩ : ∃ q,k = q + 1 := ⟨k - 1,by omega⟩
  rw [zcC,if_neg (by omega),hR k (by omega),List.drop_eq_nil_of_le (by omega)]
  rfl
 | d + 1,i,k,h,hk => by
  rw [Nat.succ_mul] at hk
  have hi : i < t.length := by omega
  have hm0 : zaA t i ∈ t := by
   unfold zaA
   rw [Int.toNat_natCast,List.getD_eq_getElem?_getD,List.getElem?_eq_getElem hi]
   exact List.getElem_mem hi
  have hMi := hM _ hm0
  obtain ⟨k,rfl⟩ : ∃ q,k = q + 2 := ⟨k - 2,by omega⟩
  have hm : zaA t i ∈ t := by
   unfold zaA
   rw [Int.toNat_natCast,List.getD_eq_getElem?_getD,List.getElem?_eq_getElem hi]
   exact List.getElem_mem hi
  obtain ⟨z1,z2,z3⟩ := hz _ hm
  have hdrop : t.drop i = zaA t i :: t.drop (i + 1) := by
   unfold zaA
   rw [Int.toNat_natCast,List.getD_eq_getElem?_getD,List.getElem?_eq_getElem hi,List.drop_eq_getElem_cons hi]
   rfl
  have hnext : ∀ q,K + d * M + 1 ≤ q → zcC q t ((i + 1 : Nat) : Int) = some (if ((t.drop (i + 1)).all zkY) = true then R else 2) := fun q hq => ygQ t hl hz M hM K R hR d (i + 1) q (by omega) hq
  have hbytes := ygP t i hi hl z1 _ _ hnext (zaA t i).f1.size 0 k (by omega) (by omega)
  rw [zcC,if_pos (by omega),if_pos (by omega),hdrop,List.all_cons]
  have hN : zkY (zaA t i) = if (zaA t i).f0 = 46 then decide (0 < (zaA t i).f1.size) && !decide (zaT (zaA t i).f1 (zaA t i).f1.size 0 < (zaA t i).f1.size) else decide ((zaA t i).f1.size = 0) && decide (0 < (zjR (zaA t i).f0).size) := rfl
  by_cases h46 : (zaA t i).f0 = 46
  ·rw [if_pos h46]
   rw [if_pos h46] at hN
   by_cases he : (zaA t i).f1.size = 0
   ·rw [if_pos ((znH _).mpr he),zuY,if_pos rfl,hN,decide_eq_false (by omega)]
    rfl
   rw [if_neg (fun h => he ((znH _).mp h)),zuY,if_neg (by decide),show ((0 : Int)) = ((0 : Nat) : Int) from rfl,hbytes,hN,decide_eq_true (show 0 < (zaA t i).f1.size by omega)]
   by_cases hp : zaT (zaA t i).f1 (zaA t i).f1.size 0 < (zaA t i).f1.size
   ·rw [if_pos hp,decide_eq_true hp];rfl
   rw [if_neg hp,decide_eq_false hp];rfl
  rw [if_neg h46]
  rw [if_neg h46] at hN
  by_cases he : (zaA t i).f1.size = 0
  ·rw [if_pos ((znH _).mpr he),ygO _ z2 z3 (k + 1) (by omega),Option.bind_some,zuY,ziM,hN,decide_eq_true he]
   by_cases hn : (zjR (zaA t i).f0).size = 0
   ·rw [decide_eq_true hn,if_pos rfl,decide_eq_false (by omega)]
    rfl
   rw [decide_eq_false hn,if_neg (by decide),show ((0 : Int)) = ((0 : Nat) : Int) from rfl,hbytes,decide_eq_true (show 0 < (zjR (zaA t i).f0).size by omega)]
   rw [he,show zaT (zaA t i).f1 0 0 = 0 from rfl,if_neg (by omega)]
   rfl
  rw [if_neg (fun h => he ((znH _).mp h)),zuY,if_pos rfl,hN,decide_eq_false he]
  rfl
def Errs (s : Bld) (out : Int) (D B : Nat) : Prop := (out = 5 ∧ 0 < D) ∨ (hasP 108 s.row ≤ 8 ∧ D = 0 ∧ ((out = 0 ∧ B = 0) ∨ (out = 4 ∧ 0 < B)))
theorem worse_2 (a : Int) : zeE a 2 = 2 := by
 unfold zeE zfL
 rw [if_pos (by simp)]
theorem worse_5 (a : Int) (h : a ≠ 2) : zeE a 5 = 5 := by
 unfold zeE zfL zfL
 rw [if_neg (by simp [h]),if_pos (by simp)]
theorem yjK (b : Int) (h : b ≠ 2) : zeE 5 b = 5 := by
 unfold zeE zfL zfL
 rw [if_neg (by simp [h]),if_pos (by simp)]
theorem ygR (L : List S47) (hl : L.length ≤ 700000) (hx : ∀ x ∈ L,LexF x) : ∀ (d i k D B : Nat) (s : Bld) (u : RSt) (out : Int),d + i = L.length → 2 * d + 3000001 ≤ k → Rel (2 * i) s u → RB u i → zjA zkW (L.take i) = some u → Errs s out D B → D ≤ i → B ≤ i →
  zbQ k L D B i = some (zeK s out (L.drop i))
 | 0,i,k,D,B,s,u,out,hd,hk,hrel,hb,hr,hE,hD,hB => by
  obtain ⟨k,rfl⟩ : ∃ q,k = q + 1 := ⟨k - 1,by omega⟩
  rw [zbQ,if_neg (by omega),List.drop_eq_nil_of_le (by omega)]
  simp only [zeK]
  rcases hE with ⟨h1,h2⟩ | ⟨_,h2,⟨h3,h4⟩ | ⟨h3,h4⟩⟩
  ·rw [if_pos (by omega),h1]
  ·rw [if_neg (by omega),if_neg (by omega),h3]
  rw [if_neg (by omega),if_pos (by omega),h3]
 | d + 1,i,k,D,B,s,u,out,hd,hk,hrel,hb,hr,hE,hD,hB => by
  obtain ⟨k,rfl⟩ : ∃ q,k = q + 2 := ⟨k - 2,by omega⟩
  have hi : i < L.length := by omega
  have hxi := hx _ (yjJ L i hi)
  have hread := read_f (L.take i) (by rw [List.length_take];omega) (fun x hm => hx x (List.mem_of_mem_take hm)) u hr
  have hbr := hb.row
  have hbt := (hb.ops _ (zzW hb.pos)).a
  rw [zbQ,if_pos (by omega),if_pos (by omega),if_pos (by omega),Int.toNat_natCast,hread,Option.bind_some,ygN L i hi]
  simp only [zeK]
  have hst := ygL hrel (by omega) _ hxi
  have hstep := stepOf hrel hb (by omega) _ hxi k (by omega)
  generalize hxe : zaI L (i : Int) = x at *
  have hj : ∀ b : Bool,zcV (k + 1) L D B i u.t u.r b = some (if b = true then 2 else if zeE out (zbF s x).2.2 = 2 then 2 else zeK (zbF s x).1 (zeE out (zbF s x).2.2) (L.drop (i + 1))) := fun b => by
   rw [zcV]
   cases b with
   | true => rfl
   | false =>
   rw [if_neg (by decide),if_neg (show ¬ (false = true) by decide),if_pos (by omega),if_pos (by omega),hxe,hstep,Option.bind_some]
   generalize zeS (zeZ u.r x.f1) u x = q at *
   by_cases q2 : q.2 = 2
   ·rw [if_pos q2,q2,hst.form.mpr q2,worse_2,if_pos rfl]
   have e2 : (zbF s x).2.2 ≠ 2 := fun e => q2 (hst.form.mp e)
   obtain ⟨u',g1,g2⟩ := hst.on e2
   have hr' : zjA zkW (L.take (i + 1)) = some u' := by rw [ygM L i hi,zuX,hr,hxe];exact g1
   have hrel' : Rel (2 * (i + 1)) (zbF s x).1 u' := by rw [show 2 * (i + 1) = 2 * i + 2 from by omega];exact g2
   have hgo := fun (D' B' : Nat) (out' : Int) (hE' : Errs (zbF s x).1 out' D' B') (h1 : D' ≤ i + 1) (h2 : B' ≤ i + 1) => ygR L hl hx d (i + 1) k D' B' (zbF s x).1 u' out' (by omega) (by omega) hrel' (ycI hb hxi.inOk g1) hr' hE' h1 h2
   have hout2 : out ≠ 2 := by rcases hE with ⟨h1,_⟩ | ⟨_,_,⟨h1,_⟩ | ⟨h1,_⟩⟩ <;> omega
   have w1 := fun _ : Unit => zgD (n := D) (by omega)
   have w2 := fun _ : Unit => zgD (n := B) (by omega)
   have w3 := fun _ : Unit => zgD (n := i) (by omega)
   have hD1 : D + 1 ≤ i + 1 := by omega
   have hB1 : B + 1 ≤ i + 1 := by omega
   have hD2 : D ≤ i + 1 := by omega
   have hB2 : B ≤ i + 1 := by omega
   rw [if_neg q2]
   by_cases q5 : q.2 = 5
   ·have e5 := hst.deep q5
    have q4 : ¬ q.2 = 4 := by rw [q5];decide
    rw [if_pos q5,if_neg q4,w1 (),w3 (),e5,worse_5 out hout2,if_neg (show ¬ ((5 : Int) = 2) by decide)]
    exact hgo (D + 1) B 5 (.inl ⟨rfl,Nat.succ_pos _⟩) hD1 hB2
   rw [if_neg q5]
   rcases hE with ⟨h1,h2⟩ | ⟨hh,h2,h3⟩
   ·subst h1
    rw [yjK _ e2,if_neg (show ¬ ((5 : Int) = 2) by decide)]
    by_cases q4 : q.2 = 4
    ·rw [if_pos q4,w2 (),w3 ()]
     exact hgo D (B + 1) 5 (.inl ⟨rfl,h2⟩) hD2 hB1
    rw [if_neg q4,w3 ()]
    exact hgo D B 5 (.inl ⟨rfl,h2⟩) hD2 hB2
   obtain ⟨c1,_⟩ := hst.same hh
   have hfew := hst.few hh e2 (by rw [c1];exact q5)
   by_cases q4 : q.2 = 4
   ·have hw : zeE out (zbF s x).2.2 = 4 := by
     rw [c1,q4]
     rcases h3 with ⟨h3,_⟩ | ⟨h3,_⟩ <;> rw [h3] <;> rfl
    rw [if_pos q4,w2 (),w3 (),hw,if_neg (show ¬ ((4 : Int) = 2) by decide)]
    exact hgo D (B + 1) 4 (.inr ⟨hfew,h2,.inr ⟨rfl,Nat.succ_pos _⟩⟩) hD2 hB1
   have q0 : q.2 = 0 := by rcases hst.inQ with h | h | h | h <;> first | exact h | exact absurd h q2 | exact absurd h q4 | exact absurd h q5
   have hw : zeE out (zbF s x).2.2 = out := by
    rw [c1,q0]
    rcases h3 with ⟨h3,_⟩ | ⟨h3,_⟩ <;> rw [h3] <;> rfl
   rw [if_neg q4,w3 (),hw,if_neg hout2]
   exact hgo D B out (.inr ⟨hfew,h2,h3⟩) hD2 hB2
  by_cases h1 : x.f0 = 1
  ·rw [if_pos h1,zrK u.r (by omega) hb.pos (by omega) (k + 1) (by omega),Option.bind_some,hj,hrel.texts,h1]
   rfl
  rw [if_neg h1,hj]
  have : (x.f0 == 1) = false := by simpa using h1
  rw [this,Bool.false_and,if_neg (show ¬ (false = true) by decide)]
theorem yeB (t : List S56) (hl : t.length ≤ 300000) (hz : zmE t) (hw : ∀ i,I64 (zaA t i).f3) (M : Nat) (hM : ∀ x ∈ t,x.f1.size + 40 ≤ M) (k : Nat) (hk : t.length * M + 5000000 ≤ k) : stylusref04_Check.f k t = some (zfE t) := by
 unfold stylusref04_Check.f zfE
 have hio : ∀ i,i < t.length → zaA t i ∈ t := fun i hi => by
  unfold zaA
  rw [Int.toNat_natCast,List.getD_eq_getElem?_getD,List.getElem?_eq_getElem hi]
  exact List.getElem_mem hi
 have hmain := ygQ t (by omega) hz M hM 4900000 (if evOk t.length t 0 t.length = true then zeK bld0 0 (evF t.length t 0 t.length) else 2) (fun k hk => by
  rw [ybH t (by omega) hw k (by omega),Option.bind_some]
  by_cases he : evOk t.length t 0 t.length = true
  ·rw [if_pos he,if_pos rfl,if_pos he]
   have hlen := zoG t t.length 0 t.length (by omega) he
   have he' := (zkO t t.length 0 t.length (by omega)).mp he
   have hall : ∀ x ∈ evF t.length t 0 t.length,LexF x := by
    rw [← zsR t (fun x hx h46 => ?_) he'.1]
    ·refine ztZ ⟨.inr (.inr rfl),by decide,by decide,by decide,by decide⟩ t fun y hy => ?_
     obtain ⟨h1,h2,h3⟩ := hz y hy
     unfold zdP
     by_cases h46 : y.f0 = 46
     ·rw [if_pos h46]
      exact ⟨.inl rfl,by show (0 : Int) ≤ 0;omega,by show (0 : Int) ≤ 255;omega,h1,by show (1 : Int) = 2 → _;omega⟩
     rw [if_neg h46]
     exact ⟨.inr (.inl rfl),h2,h3,by show (0 : Nat) ≤ _;omega,fun _ => h46⟩
    obtain ⟨i,hi,rfl⟩ := znK hx
    exact he'.2 i (Nat.zero_le _) hi h46
   have := ygR (evF t.length t 0 t.length) (by omega) hall (evF t.length t 0 t.length).length 0 k 0 0 bld0 zkW 0 (by omega) (by omega) rel0 RB0 rfl (.inr ⟨by decide,rfl,.inl ⟨rfl,rfl⟩⟩) (Nat.le_refl _) (Nat.le_refl _)
   rw [List.drop_zero] at this
   exact this
  rw [if_neg he,if_neg (by decide),if_neg he]) t.length 0 k (by omega) (by omega)
 rw [List.drop_zero] at hmain
 rw [show ((0 : Int)) = ((0 : Nat) : Int) from rfl,hmain]
 congr 1
 by_cases hN : t.all zkY = true
 ·rw [if_pos hN]
  have hNe : ∀ x ∈ t,zkY x = true := List.all_eq_true.mp hN
  by_cases he : evOk t.length t 0 t.length = true
  ·rw [if_pos he]
   have he' := (zkO t t.length 0 t.length (by omega)).mp he
   have h46 : ∀ x ∈ t,x.f0 = 46 → x.f3 = 1 := fun x hx h => by
    obtain ⟨i,hi,rfl⟩ := znK hx
    exact he'.2 i (Nat.zero_le _) hi h
   have hany : (t.any fun x => !zdS x) = false := by
    rw [List.any_eq_false]
    intro x hx
    rw [zkZ,hNe x hx,Bool.true_and]
    by_cases h : x.f0 = 46
    ·rw [if_pos h,h46 x hx h];decide
    rw [if_neg h];decide
   rw [hany,he'.1,zsR t h46 he'.1]
   rfl
  rw [if_neg he]
  have : ((t.any fun x => !zdS x) || !zeH t 0 t.length) = true := by
   rw [Bool.or_eq_true]
   by_cases hs : zeH t 0 t.length = true
   ·refine .inl ?_
    rw [List.any_eq_true]
    have hex : ∃ i,i < t.length ∧ (zaA t i).f0 = 46 ∧ (zaA t i).f3 ≠ 1 := by
     refine Classical.byContradiction fun hno => he ((zkO t t.length 0 t.length (by omega)).mpr ⟨hs,fun i h1 h2 h3 => ?_⟩)
     exact Classical.byContradiction fun h4 => hno ⟨i,h2,h3,h4⟩
    obtain ⟨i,h1,h2,h3⟩ := hex
    refine ⟨_,hio i h1,?_⟩
    rw [zkZ,if_pos h2]
    have : ((zaA t i).f3 == 1) = false := by simpa using h3
    rw [this,Bool.and_false]
    rfl
   exact .inr (by rw [Bool.eq_false_iff.mpr hs];rfl)
  rw [if_pos this]
 rw [if_neg hN]
 have : ((t.any fun x => !zdS x) || !zeH t 0 t.length) = true := by
  rw [Bool.or_eq_true]
  refine .inl ?_
  rw [List.any_eq_true]
  have hex : ∃ x ∈ t,zkY x = false := by
   refine Classical.byContradiction fun hno => hN (List.all_eq_true.mpr fun x hx => ?_)
   cases hb : zkY x with
   | true => rfl
   | false => exact absurd ⟨x,hx,hb⟩ hno
  obtain ⟨x,hx,hb⟩ := hex
  exact ⟨x,hx,by rw [zkZ,hb];rfl⟩
 rw [if_pos this]
end Go.Proofs.Ythcmfjpheanphaa.Pr
namespace Go.Proofs.Ythcmfjpheanphaa.Pr
open Go.RowKit Go.Proofs.YthcmfjpheanphaaW.PrintWords Go.Proofs.YthcmfjpheanphaaW.PrintLast Go.Proofs.YthcmfjpheanphaaW.PrintMore
attribute [local go_sem] zaX zaY zbG zbI zaV zaW zaZ zbA
def zkD : Nat → List (S56) → Int → Option (Bool)
 | 0,_,_ => none
 | k + 1,x0,x3 => if x3 < (x0.length : Int) then (if 0 ≤ x3 then (if (((zaA x0 x3).f1).size : Int) > 100 then (some true) else (zkD k x0 (wrap64 (x3 + 1)))) else (none)) else (some false)
def styluslaw04_vast.f (k : Nat) (l0 : List (S56)) : Option (Bool) := if (l0.length : Int) > 150 then (some true) else (zkD k l0 0)
end Go.Proofs.Ythcmfjpheanphaa.Pr
namespace Go.Proofs.Ythcmfjpheanphaa.Pr
open Go.RowKit Go.Proofs.YthcmfjpheanphaaW.PrintWords
def zzX (e : Int) : Prop := e = 0 ∨ e = 2 ∨ e = 4 ∨ e = 5
theorem ygS (s : Bld) (x : S47) : zzX (zbF s x).2.2 := by
 unfold zbF zzX
 split
 ·unfold zdW
  split
  ·split
   ·simp only;split <;> simp
   simp only;split <;> simp
  split <;> simp
 split
 ·unfold zdQ
  split
  ·simp only
   split
   ·simp
   split <;> simp
  simp
 unfold zdX
 split
 ·simp
 simp only;split <;> simp
theorem yeC {a e : Int} (ha : a = 0 ∨ a = 4 ∨ a = 5) (he : zzX e) : (zeE a e = 0 → a = 0 ∧ e = 0) ∧ (zeE a e = 0 ∨ zeE a e = 2 ∨ zeE a e = 4 ∨ zeE a e = 5) := by
 rcases ha with rfl | rfl | rfl <;> rcases he with rfl | rfl | rfl | rfl <;> decide
def okR : Bld → List S47 → Bool
 | _,[] => true
 | s,x :: l => !(x.f0 == 1 && !mayP s.row 46) && ((zbF s x).2.2 == 0 && okR (zbF s x).1 l)
theorem zqV : ∀ (l : List S47) (s : Bld) (out : Int),(out = 0 ∨ out = 4 ∨ out = 5) → zeK s out l = 0 → out = 0 ∧ okR s l = true
 | [],s,out,_,h => ⟨h,rfl⟩
 | x :: l,s,out,ho,h => by
  simp only [zeK] at h
  by_cases h1 : (x.f0 == 1 && !mayP s.row 46) = true
  ·rw [if_pos h1] at h;cases h
  rw [if_neg h1] at h
  obtain ⟨g1,g2⟩ := yeC ho (ygS s x)
  by_cases h2 : zeE out (zbF s x).2.2 = 2
  ·rw [if_pos h2] at h;cases h
  rw [if_neg h2] at h
  obtain ⟨k1,k2⟩ := zqV l (zbF s x).1 _ (by omega) h
  obtain ⟨m1,m2⟩ := g1 k1
  refine ⟨m1,?_⟩
  simp only [okR]
  have : (x.f0 == 1 && !mayP s.row 46) = false := by simpa using h1
  rw [this,m2,k2]
  rfl
theorem ycM : ∀ (l : List S47) (s : Bld),okR s l = true → (runP s l).2.2 = 0
 | [],s,_ => rfl
 | x :: l,s,h => by
  simp only [okR,Bool.and_eq_true,beq_iff_eq] at h
  simp only [runP]
  rw [if_pos h.2.1]
  exact ycM l _ h.2.2
theorem zrR : ∀ (l m : List S47) (s : Bld),okR s (l ++ m) = true ↔ (okR s l = true ∧ okR (runP s l).1 m = true)
 | [],m,s => by simp [okR,runP]
 | x :: l,m,s => by
  simp only [List.cons_append,okR,Bool.and_eq_true,beq_iff_eq,runP]
  constructor
  ·rintro ⟨h1,h2,h3⟩
   rw [if_pos h2]
   obtain ⟨g1,g2⟩ := (zrR l m _).1 h3
   exact ⟨⟨h1,h2,g1⟩,g2⟩
  rintro ⟨⟨h1,h2,h3⟩,h4⟩
  rw [if_pos h2] at h4
  exact ⟨h1,h2,(zrR l m _).2 ⟨h3,h4⟩⟩
theorem zmF {s : Bld} {x : S47} {l : List S47} (h : okR s (x :: l) = true) : (zbF s x).2.2 = 0 ∧ okR (zbF s x).1 l = true ∧ runP s (x :: l) = runP (zbF s x).1 l ∧ (x.f0 = 1 → mayP s.row 46 = true) := by
 simp only [okR,Bool.and_eq_true,beq_iff_eq] at h
 refine ⟨h.2.1,h.2.2,?_,fun e => ?_⟩
 ·simp only [runP];rw [if_pos h.2.1]
 have := h.1
 rw [e] at this
 simpa using this
theorem zpB {x : S56} (h : x.f0 = 46) : (zdP x).f0 = 1 := by unfold zdP;rw [if_pos h]
theorem ziQ {x : S56} (h : ¬ x.f0 = 46) : (zdP x).f0 = 2 := by unfold zdP;rw [if_neg h]
theorem zxJ {x : S56} (h : zdS x = true) (h46 : x.f0 = 46) : x.f3 = 1 := by
 unfold zdS at h
 rw [if_pos h46] at h
 simp only [Bool.and_eq_true,beq_iff_eq] at h
 exact h.2.1
theorem znQ {t : List S56} (h : zfE t = 0) : (∀ x ∈ t,zdS x = true) ∧ zeH t 0 t.length = true ∧ okR bld0 (zhL t) = true := by
 unfold zfE at h
 by_cases hc : ((t.any fun x => !zdS x) || !zeH t 0 t.length) = true
 ·rw [if_pos hc] at h;cases h
 rw [if_neg hc] at h
 have hc' : ((t.any fun x => !zdS x) || !zeH t 0 t.length) = false := by simpa using hc
 rw [Bool.or_eq_false_iff] at hc'
 refine ⟨fun x hx => ?_,by simpa using hc'.2,(zqV _ _ 0 (.inl rfl) h).2⟩
 have := List.any_eq_false.1 hc'.1 x hx
 simpa using this
end Go.Proofs.Ythcmfjpheanphaa.Pr
namespace Go.Proofs.Ythcmfjpheanphaa.Pr
open Go.RowKit Go.Proofs.YthcmfjpheanphaaW.PrintWords Go.Proofs.YthcmfjpheanphaaW.PrintLast Go.Proofs.YthcmfjpheanphaaW.PrintMore
attribute [local go_sem] zaX zaY zbG zbI zaV zaW zaZ zbA
def styluslaw03_LexReads.f (k : Nat) (a0 : ByteArray) : Option (Bool) := if (a0.size : Int) > 9000 then ((styluslaw03_awake.f k).bind fun t101 => (some t101)) else ((lex_Of.f a0).bind fun bt102 => ((stylusref03_Of.f k a0).bind fun bt107 => ((stylusref03_Same.f k bt102.1 bt107.1).bind fun t112 => (if t112 = true then (if bt102.2.1 = bt107.2.1 then (if bt102.2.2 = bt107.2.2 then ((styluslaw03_awake.f k).bind fun t113 => (some t113)) else (some false)) else (some false)) else (some false)))))
end Go.Proofs.Ythcmfjpheanphaa.Pr
namespace Go.Proofs.Ythcmfjpheanphaa.Pr
open Go.RowKit Go.Proofs.Ythcmfjpheanphaa.Pure Go.Proofs.YthcmfjpheanphaaW.PrintWords
theorem zuZ (t : ByteArray) : ∀ d p j,p ≤ j → j < zaT t d p → zcX (bt t (j : Int)) = true
 | 0,p,j,h1,h2 => by simp only [zaT] at h2;omega
 | d + 1,p,j,h1,h2 => by
  simp only [zaT] at h2
  by_cases hc : p < t.size ∧ zcX (bt t (p : Int)) = true
  ·rw [if_pos hc] at h2
   by_cases e : j = p
   ·subst e;exact hc.2
   exact zuZ t d (p + 1) j (by omega) h2
  rw [if_neg hc] at h2;omega
end Go.Proofs.Ythcmfjpheanphaa.Pr
