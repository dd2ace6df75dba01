/- Texts of this seat, one behind the other. -/
import Derived.Test.YtbddfnmhhmkfkaaXLinesSet1
import Derived.Test.YtbddfnmhhmkfkaaXLinesSet2
import Derived.Test.YtbddfnmhhmkfkaaXLinesSet3
set_option linter.unusedVariables false
set_option linter.unusedSimpArgs false
namespace Go.Proofs.Ytbddfnmhhmkfkaa.Pr
open Go.RowKit Go.Proofs.YtbddfnmhhmkfkaaW.PrintWords Go.Proofs.YtbddfnmhhmkfkaaW.PrintLast Go.Proofs.YtbddfnmhhmkfkaaW.PrintMore
theorem max_op (ats : Array TypeId) (ty : TypeId) (k : IntKind) (a b : Int) : Builtin.max_ ats ty #[.int k a, .int k b] = pure (.int k (mx a b)) := by
 rw [max_two, max2_int]
 rfl
theorem min_op (ats : Array TypeId) (ty : TypeId) (k : IntKind) (a b : Int) : Builtin.min_ ats ty #[.int k a, .int k b] = pure (.int k (mn a b)) := by
 rw [min_two, min2_int]
 rfl
attribute [local go_sem] Oper.semAt_some max_op min_op run_store_func
def dashN (n : Int) (dl : List S43) (k : Nat) : Int := (dl.take k).foldl (fun n x => wrap64 (n + x.f1)) n
def stepL (toks : List S101) (T : S43 → Int) (slack all : Int) (st : Int × Int × List S57) (x : S43) : Int × Int × List S57 :=
 if x.f0 = 3 then st else (aheadP all st.1 (T x), wrap64 (st.2.1 + wrap64 (x.f1 + partP slack all st.1 (T x))), st.2.2 ++ [spotP toks x st.2.1])
def lineL (toks : List S101) (T : S43 → Int) (slack all : Int) (l : List S43) (k : Nat) : Int × Int × List S57 := (l.take k).foldl (stepL toks T slack all) (0, 0, [])
def stepD (toks : List S101) (st : Int × List S57) (x : S43) : Int × List S57 := (wrap64 (st.1 + x.f1), st.2 ++ [spotP toks x st.1])
def lineD (toks : List S101) (st : Int × List S57) (dl : List S43) (k : Nat) : Int × List S57 := (dl.take k).foldl (stepD toks) st
theorem take_next {α β : Type} (f : β → α → β) (b : β) (l : List α) (k : Nat) (x : α) (h : l[k]? = some x) : (l.take (k + 1)).foldl f b = f ((l.take k).foldl f b) x := by
 rw [List.take_add_one, h]
 simp only [Option.toList_some, List.foldl_append, List.foldl_cons, List.foldl_nil]
theorem rd43_get (l : List S43) (k : Nat) (h : k < l.length) : l[k]? = some (rd_T43 l k) := by
 unfold rd_T43
 rw [Int.toNat_natCast, List.getD_eq_getElem?_getD, List.getElem?_eq_getElem h]
 rfl
def bitP (b : Bool) (k : Int) : Int := if b = true then shl .i64 1 k else 0
theorem bit_ev (b : Bool) (k : Int) (h : 0 ≤ k) : lines_bit.f b k = some (bitP b k) := by
 unfold lines_bit.f bitP
 cases b
 ·rfl
 ·rw [if_pos rfl, if_pos rfl, if_pos h]
theorem line_len (toks : List S101) (T : S43 → Int) (slack all : Int) (l : List S43) : ∀ k, (lineL toks T slack all l k).2.2.length ≤ k
 | 0 => by simp [lineL]
 | k + 1 => by
  have ih := line_len toks T slack all l k
  unfold lineL at ih ⊢
  rcases Nat.lt_or_ge k l.length with h | h
  ·rw [take_next _ _ _ _ _ (rd43_get l k h)]
   generalize (l.take k).foldl (stepL toks T slack all) (0, 0, []) = st at *
   unfold stepL
   split
   ·omega
   ·simp; omega
  ·rw [List.take_of_length_le (by omega)] at ih ⊢
   omega
theorem lineD_len (toks : List S101) (st : Int × List S57) (dl : List S43) : ∀ k, (lineD toks st dl k).2.length ≤ st.2.length + k
 | 0 => by simp [lineD]
 | k + 1 => by
  have ih := lineD_len toks st dl k
  unfold lineD at ih ⊢
  rcases Nat.lt_or_ge k dl.length with h | h
  ·rw [take_next _ _ _ _ _ (rd43_get dl k h)]
   generalize (dl.take k).foldl (stepD toks) st = st' at *
   unfold stepD
   simp; omega
  ·rw [List.take_of_length_le (by omega)] at ih ⊢
   omega
theorem drawn_below {w w' : World} (h : Drawn0 w w') (B : Nat) : Below B w w' := by
 obtain ⟨⟨n, rfl⟩⟩ := h
 exact pw_below_drewN (Below.refl _ _) n
theorem set_start {w w5 : World} (f : Nat) (At : Option Addr) (nt ct : Nat) (all s : Int) (hR : w5.heap[w.heap.size]? = some (.cells #[.slice none 0 0, .int .i64 0, .int .i64 0] 55 (0, 0))) (hB : Below w.heap.size w w5) :
  SetI w (((((w5.alloc (.cells #[.int .i64 s] 3)).alloc (.cells #[.func (.func f) #[] #[]] 118)).alloc (.cells #[.int .i64 all] 3)).alloc (.cells #[.slice none 0 0, .int .i64 0, .int .i64 0, .slice At nt ct] 120)).alloc (.cells #[.int .i64 0] 3))
   (w5.heap.size + 5) ⟨w.heap.size, w5.heap.size, w5.heap.size + 1, w5.heap.size + 2, w5.heap.size + 3, w5.heap.size + 4⟩ f At nt ct all s 0 0 [] (.slice none 0 0) := by
 have hlt := blk_lt hR
 have a1 := blk_new w5 (.cells #[.int .i64 s] 3)
 have a2 := blk_new (w5.alloc (.cells #[.int .i64 s] 3)) (.cells #[.func (.func f) #[] #[]] 118)
 have a3 := blk_new ((w5.alloc (.cells #[.int .i64 s] 3)).alloc (.cells #[.func (.func f) #[] #[]] 118)) (.cells #[.int .i64 all] 3)
 have a4 := blk_new (((w5.alloc (.cells #[.int .i64 s] 3)).alloc (.cells #[.func (.func f) #[] #[]] 118)).alloc (.cells #[.int .i64 all] 3)) (.cells #[.slice none 0 0, .int .i64 0, .int .i64 0, .slice At nt ct] 120)
 have a5 := blk_new ((((w5.alloc (.cells #[.int .i64 s] 3)).alloc (.cells #[.func (.func f) #[] #[]] 118)).alloc (.cells #[.int .i64 all] 3)).alloc (.cells #[.slice none 0 0, .int .i64 0, .int .i64 0, .slice At nt ct] 120)) (.cells #[.int .i64 0] 3)
 have hs := hB.size
 simp only [World.size_alloc] at a1 a2 a3 a4 a5
 refine ⟨blk_alloc (blk_alloc (blk_alloc (blk_alloc a1 _) _) _) _, blk_alloc (blk_alloc (blk_alloc a2 _) _) _, blk_alloc (blk_alloc a3 _) _, a5, blk_alloc a4 _, blk_alloc (blk_alloc (blk_alloc (blk_alloc (blk_alloc hR _) _) _) _) _, ⟨rfl, .inl ⟨rfl, rfl⟩⟩, by simp,
  ((((hB.alloc hs _).alloc (by simp; omega) _).alloc (by simp; omega) _).alloc (by simp; omega) _).alloc (by simp; omega) _⟩
theorem set_ok {w w5 : World} (hlt : w.heap.size < w5.heap.size) : SetG.Ok ⟨w.heap.size, w5.heap.size, w5.heap.size + 1, w5.heap.size + 2, w5.heap.size + 3, w5.heap.size + 4⟩ w.heap.size (w5.heap.size + 5) :=
 ⟨⟨Nat.le_refl _, by show _ ≤ w5.heap.size; omega, by show _ ≤ w5.heap.size + 1; omega, by show _ ≤ w5.heap.size + 2; omega, by show _ ≤ w5.heap.size + 3; omega, by show _ ≤ w5.heap.size + 4; omega⟩,
  ⟨by show w.heap.size < _; omega, by show w5.heap.size < _; omega, by show w5.heap.size + 1 < _; omega, by show w5.heap.size + 2 < _; omega, by show w5.heap.size + 3 < _; omega, by show w5.heap.size + 4 < _; omega⟩,
  ⟨by show w.heap.size ≠ w5.heap.size + 4; omega, by show w5.heap.size ≠ w5.heap.size + 4; omega, by show w5.heap.size + 1 ≠ w5.heap.size + 4; omega, by show w5.heap.size + 2 ≠ w5.heap.size + 4; omega, by show w5.heap.size + 3 ≠ w5.heap.size + 4; omega⟩,
  ⟨by show w.heap.size ≠ w5.heap.size + 3; omega, by show w5.heap.size ≠ w5.heap.size + 3; omega, by show w5.heap.size + 1 ≠ w5.heap.size + 3; omega, by show w5.heap.size + 2 ≠ w5.heap.size + 3; omega⟩⟩
def tellP (s0 : Int) : S43 → Int := if s0 < 0 then shrinkT else growT
def allP (s0 y z : Int) : Int := if s0 < 0 then z else y
def slackP (ends : Bool) (nn wd s0 : Int) : Int := if ends = true ∧ nn ≤ wd then 0 else s0
def setQ (toks : List S101) (l dl : List S43) (wd : Int) (ends : Bool) (y z nn s0 : Int) (n k : Nat) : S55 :=
 ⟨(lineD toks (lineL toks (tellP s0) (slackP ends nn wd s0) (allP s0 y z) l n).2 dl k).2, (lineD toks (lineL toks (tellP s0) (slackP ends nn wd s0) (allP s0 y z) l n).2 dl k).1,
  bits .or .i64 (bits .or .i64 (bitP (decide (wd < wrap64 (nn - z))) 0) (bitP (!ends && decide (wrap64 (nn + y) < wd)) 1)) (bitP (decide (0 < k)) 2)⟩
def setP (toks : List S101) (l : List S43) (wd : Int) (ends : Bool) (dl : List S43) : S55 :=
 setQ toks l dl wd ends (sumT growT l l.length) (sumT shrinkT l l.length) (dashN (sumT wideT l l.length) dl dl.length)
  (mn (mx (wrap64 (wd - dashN (sumT wideT l l.length) dl dl.length)) (wrap64 (-sumT shrinkT l l.length))) (sumT growT l l.length)) l.length dl.length
set_option maxRecDepth 100000 in
set_option maxHeartbeats 4000000 in
theorem set_calls (At : Option Addr) (ct : Nat) (toks : List S101) (A : Option Addr) (c : Nat) (l : List S43) (wd : Int) (ends : Bool) (Ad : Option Addr) (cd : Nat) (dl : List S43) (w : World)
  (hct : toks.length ≤ ct) (hT : Kd.C k101 w At toks.length toks) (hA : Kd.C k43 w A l.length l) (hD : Kd.C k43 w Ad dl.length dl) (hl : l.length ≤ 1000) (hdl : dl.length ≤ 1000)
  (hk : ∀ x ∈ l, x.f0 = 1 ∨ x.f0 = 2 ∨ x.f0 = 3 ∨ x.f0 = 4) (hkd : ∀ x ∈ dl, x.f0 = 1 ∨ x.f0 = 2 ∨ x.f0 = 3 ∨ x.f0 = 4) :
  Calls Try.prog 63 #[.slice At toks.length ct, .slice A l.length c, .int .i64 wd, .bool ends, .slice Ad dl.length cd] w fun e w' => ∃ v, e = .returned (.agg #[v, .int .i64 (setP toks l wd ends dl).f1, .int .i64 (setP toks l wd ends dl).f2]) ∧ w'.ownsRow w.heap.size 57 4 v (setP toks l wd ends dl).f0.length (flat57 (setP toks l wd ends dl).f0) ∧ Below w.heap.size w w' := by
 obtain ⟨R, hR⟩ : ∃ R, setP toks l wd ends dl = R := ⟨_, rfl⟩
 rw [hR]
 unfold setP at hR
 have HTK := Lib.hid hT
 have HA := Lib.hid hA
 have HD := Lib.hid hD
 clear hT hA hD
 obtain ⟨n, hn⟩ : ∃ n, l.length = n := ⟨_, rfl⟩
 obtain ⟨m, hm⟩ : ∃ m, dl.length = m := ⟨_, rfl⟩
 obtain ⟨nt, hnt⟩ : ∃ m, toks.length = m := ⟨_, rfl⟩
 have HN := Lib.hid hn
 have HM := Lib.hid hm
 have HNT := Lib.hid hnt
 rw [hm, hn] at hR
 rw [hnt, hm, hn]
 have hm1 : m ≤ 1000 := by omega
 have hn1 : n ≤ 1000 := by omega
 have hcA : ∀ W, Below w.heap.size w W → Calls Try.prog 80 #[.slice A n c, .func (.func 81) #[] #[]] W (fun e w' => e = .returned (.int .i64 (sumT wideT l n)) ∧ Below W.heap.size W w') ∧
   Calls Try.prog 80 #[.slice A n c, .func (.func 82) #[] #[]] W (fun e w' => e = .returned (.int .i64 (sumT growT l n)) ∧ Below W.heap.size W w') ∧
   Calls Try.prog 80 #[.slice A n c, .func (.func 83) #[] #[]] W (fun e w' => e = .returned (.int .i64 (sumT shrinkT l n)) ∧ Below W.heap.size W w') := fun W hW => by
  rw [← hn]
  exact ⟨sum_calls 81 wideT wide_tells A c l W (by omega) (Kd.C_below HA.out hW), sum_calls 82 growT grow_tells A c l W (by omega) (Kd.C_below HA.out hW), sum_calls 83 shrinkT shrink_tells A c l W (by omega) (Kd.C_below HA.out hW)⟩
 have HS := Lib.hid hcA
 clear hcA hn hm hnt
 generalize hn0 : sumT wideT l n = n0 at *
 generalize hy : sumT growT l n = y at *
 generalize hz : sumT shrinkT l n = z at *
 have HRP := Lib.hid hR
 clear hR
 have hr0 := blk_new w (.cells #[.slice none 0 0, .int .i64 0, .int .i64 0] 55)
 have hb0 := (Below.refl w.heap.size w).alloc (Nat.le_refl _) (.cells #[.slice none 0 0, .int .i64 0, .int .i64 0] 55)
 obtain ⟨w1, hw1⟩ : ∃ w1, w.alloc (.cells #[.slice none 0 0, .int .i64 0, .int .i64 0] 55) = w1 := ⟨_, rfl⟩
 rw [hw1] at hr0 hb0
 have HR0 := Lib.hid hr0
 have HB0 := Lib.hid hb0
 clear hr0 hb0
 go_enter Try.func63, Try.ntmps63
 go_wp2_with fail
 refine (HS.out _ HB0.out).1.mono ?_
 rintro _ w2 ⟨rfl, hb2⟩
 have hr2 := blk_below HR0.out hb2
 replace hb2 := HB0.out.trans (hb2.mono HB0.out.size)
 have HR2 := Lib.hid hr2
 have HB2 := Lib.hid hb2
 clear hr2 hb2 hw1
 go_wp2_with fail
 go_loopw [11, 30] (fun v11 v30 wr => ∃ (k : Nat), v30 = .int .i64 k ∧ k ≤ m ∧ v11 = .int .i64 (dashN n0 dl k) ∧ wr.heap[w.heap.size]? = some (.cells #[.slice none 0 0, .int .i64 0, .int .i64 0] 55 (0, 0)) ∧ Below w.heap.size w wr) (fun _ v _ => m - (intOf v).toNat)
 case atStart => exact ⟨0, rfl, Nat.zero_le _, rfl, HR2.out, HB2.out⟩
 case round =>
  obtain ⟨k, rfl, hkm, rfl, hR, hB⟩ := hrel
  by_cases hlt : k < m
  ·have hlt1 : (k : Int) < (m : Int) := by omega
   obtain ⟨ad, e1, q0, q1, q2, q3, q4⟩ := at_T43 (Kd.C_below HD.out hB) k (by omega) (by have := HM.out; omega)
   cases e1
   have hnx : Hid (dashN n0 dl (k + 1) = wrap64 (dashN n0 dl k + (rd_T43 dl k).f1)) := take_next _ _ _ _ _ (rd43_get dl k (by have := HM.out; omega))
   generalize rd_T43 dl k = x at *
   obtain ⟨f0, f1, f2, f3, f4⟩ := x
   simp only [Int.toNat_natCast] at q0 q1 q2 q3 q4
   have HRr := Lib.hid hR
   clear hR
   go_wp2_with fail
   go_roundw
   case rel => exact ⟨k + 1, by go_num, by omega, by rw [hnx.out], blk_alloc HRr.out _, hB.alloc hB.size _⟩
   case measure => simp [intOf]; omega
  ·obtain rfl : k = m := by omega
   have hlt1 : ¬ (k : Int) < (k : Int) := by omega
   have HR3 := Lib.hid hR
   have HB3 := Lib.hid hB
   clear hR hB
   generalize hnn : dashN n0 dl k = nn at *
   go_wp2_with fail
   refine (HS.out _ HB3.out).2.1.mono ?_
   rintro _ w4 ⟨rfl, hb4⟩
   have hr4 := blk_below HR3.out hb4
   replace hb4 := HB3.out.trans (hb4.mono HB3.out.size)
   have HR4 := Lib.hid hr4
   have HB4 := Lib.hid hb4
   clear hr4 hb4
   go_wp2_with fail
   refine (HS.out _ HB4.out).2.2.mono ?_
   rintro _ w5 ⟨rfl, hb5⟩
   have hr5 := blk_below HR4.out hb5
   replace hb5 := HB4.out.trans (hb5.mono HB4.out.size)
   have HR5 := Lib.hid hr5
   have HB5 := Lib.hid hb5
   clear hr5 hb5
   obtain ⟨s0, hs0⟩ : ∃ s0, mn (mx (wrap64 (wd - nn)) (wrap64 (-z))) y = s0 := ⟨_, rfl⟩
   have hq := HRP.out
   rw [hs0] at hq
   have HRQ := Lib.hid hq
   clear hq HRP
   by_cases hs : s0 < 0 <;> (rcases Bool.eq_false_or_eq_true ends with he | he) <;> (by_cases hle : nn ≤ wd)
   all_goals
    have HS0 := Lib.hid hs
    have HLE := Lib.hid hle
    have HEN := Lib.hid he
    go_wp2_with fail
   all_goals
    generalize hW : World.alloc _ _ = W
    obtain ⟨f, HT, I0⟩ : ∃ f, Tells f (tellP s0) ∧ SetI w W (w5.heap.size + 5) ⟨w.heap.size, w5.heap.size, w5.heap.size + 1, w5.heap.size + 1 + 1, w5.heap.size + 1 + 1 + 1, w5.heap.size + 1 + 1 + 1 + 1⟩ f At nt ct (allP s0 y z) (slackP ends nn wd s0) 0 0 [] (.slice none 0 0) := by
     have hs1 := HS0.out
     have hl1 := HLE.out
     have he1 := HEN.out
     rw [← hW]
     unfold tellP allP slackP
     first
     | rw [if_pos (⟨he1, by omega⟩ : ends = true ∧ nn ≤ wd)]
     | rw [if_neg (fun h : ends = true ∧ nn ≤ wd => by have := h.2; omega)]
     | rw [if_neg (fun h : ends = true ∧ nn ≤ wd => by have := h.1; rw [he1] at this; cases this)]
     first
     | (rw [if_pos (by omega : s0 < 0), if_pos (by omega : s0 < 0)]; exact ⟨83, shrink_tells, set_start _ _ _ _ _ _ HR5.out HB5.out⟩)
     | (rw [if_neg (by omega : ¬ s0 < 0), if_neg (by omega : ¬ s0 < 0)]; exact ⟨82, grow_tells, set_start _ _ _ _ _ _ HR5.out HB5.out⟩)
   all_goals
    have hG : SetG.Ok ⟨w.heap.size, w5.heap.size, w5.heap.size + 1, w5.heap.size + 1 + 1, w5.heap.size + 1 + 1 + 1, w5.heap.size + 1 + 1 + 1 + 1⟩ w.heap.size (w5.heap.size + 5) := set_ok (blk_lt HR5.out)
    clear hW HR5 HB5 HR3 HB3 HR2 HB2 HR0 HB0 HR4 HB4
    have HI0 := Lib.hid I0
    have HT1 := Lib.hid HT
    have HG := Lib.hid hG
    clear I0 HT hG
    obtain rfl := HNT.out
    generalize w5.heap.size + 5 = B at *
    generalize w5.heap.size + 1 + 1 + 1 + 1 = gh at *
    generalize w5.heap.size + 1 + 1 + 1 = gx at *
    generalize w5.heap.size + 1 + 1 = ga at *
    generalize w5.heap.size + 1 = gt at *
    generalize w5.heap.size = gs at *
    obtain ⟨T, hTT⟩ : ∃ T, tellP s0 = T := ⟨_, rfl⟩
    obtain ⟨al, hal⟩ : ∃ al, allP s0 y z = al := ⟨_, rfl⟩
    obtain ⟨sl, hsl⟩ : ∃ sl, slackP ends nn wd s0 = sl := ⟨_, rfl⟩
    have hi0 := HI0.out
    have ht1 := HT1.out
    rw [hal, hsl] at hi0
    rw [hTT] at ht1
    have hq := HRQ.out
    unfold setQ at hq
    rw [hTT, hal, hsl, he] at hq
    clear HI0 HT1 HRQ
    have HI0 := Lib.hid hi0
    have HT1 := Lib.hid ht1
    have HTA := Lib.hid hq
    clear hi0 ht1 hq hTT hal hsl
    go_loopw [66] (fun v66 wr => ∃ (k : Nat) (v : Value), v66 = .int .i64 k ∧ k ≤ n ∧ SetI w wr B ⟨w.heap.size, gs, gt, ga, gx, gh⟩ f At toks.length ct al sl (lineL toks T sl al l k).1 (lineL toks T sl al l k).2.1 (lineL toks T sl al l k).2.2 v) (fun v _ => n - (intOf v).toNat)
    case atStart => exact ⟨0, _, rfl, Nat.zero_le _, HI0.out⟩
    case round =>
     obtain ⟨j, v, rfl, hj, hI⟩ := hrel
     by_cases hlt : j < n
     ·have hlt1 : (j : Int) < (n : Int) := by omega
      obtain ⟨ad, e1, q0, q1, q2, q3, q4⟩ := at_T43 (Kd.C_below HA.out hI.hB) j (by omega) (by have := HN.out; omega)
      cases e1
      have hnx : Hid (lineL toks T sl al l (j + 1) = stepL toks T sl al (lineL toks T sl al l j) (rd_T43 l j)) := take_next _ _ _ _ _ (rd43_get l j (by have := HN.out; omega))
      have hkx := hk (rd_T43 l j) (List.mem_of_getElem? (rd43_get l j (by have := HN.out; omega)))
      have hln := line_len toks T sl al l j
      generalize rd_T43 l j = x at *
      generalize lineL toks T sl al l j = st at *
      obtain ⟨f0, f1, f2, f3, f4⟩ := x
      simp only [Int.toNat_natCast] at q0 q1 q2 q3 q4
      have HI := Lib.hid hI
      have HK := Lib.hid hkx
      clear hI hkx
      by_cases h3 : f0 = 3
      ·subst h3
       go_wp2_with fail
       refine ⟨⟨j + 1, v, by simp, by omega, ?_⟩, by simp [intOf]; omega⟩
       rw [hnx.out, stepL, if_pos rfl]
       exact HI.out.below ((Below.refl _ _).alloc (Nat.le_refl _) _)
      ·have h3b : (f0 == 3) = false := beq_eq_false_iff_ne.2 h3
       have hbox := blk_new wr (.cells #[.int .i64 f0, .int .i64 f1, .int .i64 f2, .int .i64 f3, .int .i64 f4] 43)
       have hIb := HI.out.below ((Below.refl _ _).alloc (Nat.le_refl _) (.cells #[.int .i64 f0, .int .i64 f1, .int .i64 f2, .int .i64 f3, .int .i64 f4] 43))
       have hgb : wr.heap.size ≠ gh := by
        have h1 := HG.out.hi.2.2.2.2.2
        have h2 := HI.out.le
        simp only at h1
        omega
       have HBX := Lib.hid hbox
       have HIB := Lib.hid hIb
       have HGB := Lib.hid hgb
       have H3 := Lib.hid h3
       clear hbox hIb hgb
       go_wp2_with fail
       refine Go.Mix.region_mix' (fun b W => SetI w W B ⟨w.heap.size, gs, gt, ga, gx, gh⟩ f At toks.length ct al sl (bif b then aheadP al st.1 (T ⟨f0, f1, f2, f3, f4⟩) else st.1) st.2.1 st.2.2 v ∧ W.heap[wr.heap.size]? = some (.cells #[.int .i64 f0, .int .i64 f1, .int .i64 f2, .int .i64 f3, .int .i64 f4] 43 (0, 0))) 5 7 [] (by kernel_rfl) (by kernel_rfl) (fun _ _ _ _ _ h => h) ⟨HIB.out.below (below_drew1 (Below.refl _ _)), HBX.out⟩ ?_
       refine Go.Mix.seqE_nil ?_
       repeat
        apply Go.Mix.seqM_cons (by rfl) (by rfl)
        focus
         intro b W hS
         have x0 := blk_cell hS.2 0
         have x1 := blk_cell hS.2 1
         have x2 := blk_cell hS.2 2
         have x3 := blk_cell hS.2 3
         have x4 := blk_cell hS.2 4
         simp only [List.getElem?_toArray, List.getElem?_cons_succ, List.getElem?_cons_zero] at x0 x1 x2 x3 x4
         have HS9 := Lib.hid hS
         clear hS
         go_wp2
         exact Go.Det.AtEnd.mk HS9.out
       apply Go.Mix.seqM_main (by rfl)
       focus
        intro W hS
        have HS9 := Lib.hid hS
        clear hS
        go_wp2_with fail
        refine (set_share HT1.out HG.out HS9.out.1 ⟨f0, f1, f2, f3, f4⟩).mono ?_
        rintro _ W2 ⟨rfl, hI2, hkeep⟩
        have HE9 := Lib.hid (And.intro hI2 (hkeep _ _ HGB.out HS9.out.2))
        clear hI2 hkeep
        go_wp2
        exact Go.Det.AtEnd.mk HE9.out
       repeat
        apply Go.Mix.seqM_cons (by rfl) (by rfl)
        focus
         intro b W hS
         have HS9 := Lib.hid hS
         clear hS
         go_wp2
         exact Go.Det.AtEnd.mk HS9.out
       refine Go.Mix.seqM_nil ?_
       intro W hS
       have HS9 := Lib.hid hS
       clear hS
       simp only [List.drop_succ_cons, List.drop_zero]
       go_wp2_with fail
       refine (set_show HG.out hct HTK.out HS9.out.1 (by omega) ⟨f0, f1, f2, f3, f4⟩ _ HK.out).mono ?_
       rintro _ W2 ⟨rfl, v', hI2⟩
       have HE9 := Lib.hid hI2
       clear hI2
       go_wp2
       refine ⟨⟨j + 1, v', by simp, by omega, ?_⟩, by simp [intOf]; omega⟩
       rw [hnx.out, stepL, if_neg H3.out]
       exact HE9.out
     ·obtain rfl : j = n := by omega
      have hlt1 : ¬ (j : Int) < (j : Int) := by omega
      have hln := line_len toks T sl al l j
      obtain ⟨st, hst⟩ : ∃ st, lineL toks T sl al l j = st := ⟨_, rfl⟩
      rw [hst] at hI hln
      obtain ⟨ah, wt, sp⟩ := st
      simp only at hln
      have HI := Lib.hid hI
      have HST := Lib.hid hst
      clear hI hst
      go_wp2_with fail
      go_loopw [84] (fun v84 wr => ∃ (i : Nat) (v : Value), v84 = .int .i64 i ∧ i ≤ k ∧ SetI w wr B ⟨w.heap.size, gs, gt, ga, gx, gh⟩ f At toks.length ct al sl ah (lineD toks (wt, sp) dl i).1 (lineD toks (wt, sp) dl i).2 v) (fun v _ => k - (intOf v).toNat)
      case atStart => exact ⟨0, v, rfl, Nat.zero_le _, HI.out⟩
      case round =>
       obtain ⟨i, v, rfl, hi, hI⟩ := hrel
       by_cases hlt : i < k
       ·have hlt2 : (i : Int) < (k : Int) := by omega
        obtain ⟨ad, e1, q0, q1, q2, q3, q4⟩ := at_T43 (Kd.C_below HD.out hI.hB) i (by omega) (by have := HM.out; omega)
        cases e1
        have hnx : Hid (lineD toks (wt, sp) dl (i + 1) = stepD toks (lineD toks (wt, sp) dl i) (rd_T43 dl i)) := take_next _ _ _ _ _ (rd43_get dl i (by have := HM.out; omega))
        have hkx := hkd (rd_T43 dl i) (List.mem_of_getElem? (rd43_get dl i (by have := HM.out; omega)))
        have hld := lineD_len toks (wt, sp) dl i
        generalize rd_T43 dl i = x at *
        generalize lineD toks (wt, sp) dl i = st at *
        obtain ⟨f0, f1, f2, f3, f4⟩ := x
        simp only [Int.toNat_natCast] at q0 q1 q2 q3 q4 hln hld
        have HIb := Lib.hid (hI.below ((Below.refl _ _).alloc (Nat.le_refl _) (.cells #[.int .i64 f0, .int .i64 f1, .int .i64 f2, .int .i64 f3, .int .i64 f4] 43)))
        have HK := Lib.hid hkx
        clear hI hkx
        go_wp2_with fail
        refine (set_show HG.out hct HTK.out HIb.out (by omega) ⟨f0, f1, f2, f3, f4⟩ _ HK.out).mono ?_
        rintro _ W2 ⟨rfl, v', hI2⟩
        have HE9 := Lib.hid hI2
        clear hI2
        go_wp2
        refine ⟨⟨i + 1, v', by simp, by omega, ?_⟩, by simp [intOf]; omega⟩
        rw [hnx.out, stepD]
        exact HE9.out
       ·obtain rfl : i = k := by omega
        have hlt2 : ¬ (i : Int) < (i : Int) := by omega
        have HI9 := Lib.hid hI
        clear hI
        go_wp2_with fail
        refine (lines_bit.calls _ 0 _ _ (bit_ev _ 0 (by decide))).mono ?_
        rintro _ wb1 ⟨rfl, hd1⟩
        have HJ1 := Lib.hid (HI9.out.below (drawn_below hd1 _))
        clear hd1
        go_wp2_with fail
        refine (lines_bit.calls _ 1 _ _ (bit_ev _ 1 (by decide))).mono ?_
        rintro _ wb2 ⟨rfl, hd2⟩
        have HJ2 := Lib.hid (HJ1.out.below (drawn_below hd2 _))
        clear hd2
        go_wp2_with fail
        refine (lines_bit.calls _ 2 _ _ (bit_ev _ 2 (by decide))).mono ?_
        rintro _ wb3 ⟨rfl, hd3⟩
        have HJ3 := Lib.hid (HJ2.out.below (drawn_below hd3 _))
        clear hd3
        obtain ⟨A', c', rfl⟩ := own_slice HJ3.out.own
        have hne := HG.out.nx.1
        simp only at hne
        have y0 := blk_cell HJ3.out.hX 0
        have y1 := blk_cell HJ3.out.hX 1
        have y2 := blk_cell HJ3.out.hX 2
        have y3 := blk_frozen HJ3.out.hX 2
        simp only [List.getElem?_toArray, List.getElem?_cons_succ, List.getElem?_cons_zero] at y0 y1 y2
        have hkeep : ∀ b : Int, (wb3.setCell ⟨gx, 2, none⟩ (.int .i64 b)).heap[w.heap.size]? = some (.cells #[.slice none 0 0, .int .i64 0, .int .i64 0] 55 (0, 0)) := fun b => blk_far HJ3.out.hR (p := ⟨gx, 2, none⟩) hne _
        have r0 := fun b => blk_cell (hkeep b) 0
        have r1 := fun b => blk_cell (hkeep b) 1
        have r2 := fun b => blk_cell (hkeep b) 2
        have s0 := fun b => blk_frozen (hkeep b) 0
        have s1 := fun b => blk_frozen (hkeep b) 1
        have s2 := fun b => blk_frozen (hkeep b) 2
        have HKE := Lib.hid hkeep
        clear hkeep
        simp only [List.getElem?_toArray, List.getElem?_cons_succ, List.getElem?_cons_zero] at r0 r1 r2
        go_wp2_with fail
        have hRR := HTA.out
        rw [HST.out] at hRR
        simp only [Bool.not_true, Bool.false_and, Bool.not_false, Bool.true_and] at hRR
        have hb0 := congrArg S55.f0 hRR
        have hb1 := congrArg S55.f1 hRR
        have hb2 := congrArg S55.f2 hRR
        simp only at hb0 hb1 hb2
        rw [hb2]
        rw [← hb1, ← hb0]
        clear hRR hb0 hb1 hb2
        generalize R.f2 = b at *
        have n1 := own_apart HJ3.out.own HJ3.out.hX (by decide)
        have n2 := own_apart HJ3.out.own HJ3.out.hR (by decide)
        have hr3 := blk_set (blk_set (blk_set (HKE.out b) 0 (.slice A' (lineD toks (wt, sp) dl i).2.length c')) 1 (.int .i64 (lineD toks (wt, sp) dl i).1)) 2 (.int .i64 b)
        have ho3 := own_setCell (own_setCell (own_setCell (own_setCell HJ3.out.own (p := ⟨gx, 2, none⟩) n1 (.int .i64 b)) (p := ⟨w.heap.size, 0, none⟩) n2 (.slice A' (lineD toks (wt, sp) dl i).2.length c')) (p := ⟨w.heap.size, 1, none⟩) n2 (.int .i64 (lineD toks (wt, sp) dl i).1)) (p := ⟨w.heap.size, 2, none⟩) n2 (.int .i64 b)
        have hgl := HG.out.lo.2.2.2.2.1
        have hgB := HG.out.hi.1
        simp only at hgl hgB
        have hb3 := (((HJ3.out.hB.setCell (p := ⟨gx, 2, none⟩) hgl (.int .i64 b)).setCell (p := ⟨w.heap.size, 0, none⟩) (Nat.le_refl _) (.slice A' (lineD toks (wt, sp) dl i).2.length c')).setCell (p := ⟨w.heap.size, 1, none⟩) (Nat.le_refl _) (.int .i64 (lineD toks (wt, sp) dl i).1)).setCell (p := ⟨w.heap.size, 2, none⟩) (Nat.le_refl _) (.int .i64 b)
        generalize ((((wb3.setCell ⟨gx, 2, none⟩ (.int .i64 b)).setCell ⟨w.heap.size, 0, none⟩ (.slice A' (lineD toks (wt, sp) dl i).2.length c')).setCell ⟨w.heap.size, 1, none⟩ (.int .i64 (lineD toks (wt, sp) dl i).1)).setCell ⟨w.heap.size, 2, none⟩ (.int .i64 b)) = W9 at *
        have z0 := blk_cell hr3 0
        have z1 := blk_cell hr3 1
        have z2 := blk_cell hr3 2
        simp at z0 z1 z2
        refine bodyPost_ret (v := .agg #[.slice A' (lineD toks (wt, sp) dl i).2.length c', .int .i64 (lineD toks (wt, sp) dl i).1, .int .i64 b]) ?_ rfl ⟨_, rfl, own_weaken ho3 (by omega), hb3⟩
        simp [results, Try.results63, go_sem, z0, z1, z2]
end Go.Proofs.Ytbddfnmhhmkfkaa.Pr
namespace Go.Proofs.Ytbddfnmhhmkfkaa.Pr
open Go.RowKit Go.Proofs.YtbddfnmhhmkfkaaW.PrintWords
attribute [local go_sem] Oper.semAt_some
def oddT (toks : List S101) (x : S43) : Bool := !(showP toks x).2
theorem oddT_calls (At : Option Addr) (ct : Nat) (toks : List S101) (x : S43) (g : Nat) (w : World) (hct : toks.length ≤ ct) (hT : Kd.C k101 w At toks.length toks) (hg : w.heap[g]? = some (.cells #[.slice At toks.length ct] 44 (0, 0))) :
  Calls Try.prog 61 #[.agg #[.int .i64 x.f0, .int .i64 x.f1, .int .i64 x.f2, .int .i64 x.f3, .int .i64 x.f4], .pointer (some ⟨g, 0, none⟩)] w fun e w' => e = .returned (.bool (oddT toks x)) ∧ Below w.heap.size w w' := by
 unfold oddT
 obtain ⟨⟨c, b⟩, hcb⟩ : ∃ p, showP toks x = p := ⟨_, rfl⟩
 have hev := shows_ev toks x
 rw [hcb] at hev ⊢
 have hsh := fun W hW => lines_shows.calls 1 At ct toks x.f0 x.f1 x.f2 x.f3 x.f4 c b W (Kd.C_below hT hW) hct hev
 have HSH := Lib.hid hsh
 clear hsh hev hcb hT
 obtain ⟨f0, f1, f2, f3, f4⟩ := x
 have hx := blk_new w (.cells #[.int .i64 f0, .int .i64 f1, .int .i64 f2, .int .i64 f3, .int .i64 f4] 43)
 have hg1 := blk_alloc hg (.cells #[.int .i64 f0, .int .i64 f1, .int .i64 f2, .int .i64 f3, .int .i64 f4] 43)
 have c0 := blk_cell hg1 0
 simp only [List.getElem?_toArray, List.getElem?_cons_zero] at c0
 have hB1 := Lib.hid ((Below.refl w.heap.size w).alloc (Nat.le_refl _) (.cells #[.int .i64 f0, .int .i64 f1, .int .i64 f2, .int .i64 f3, .int .i64 f4] 43))
 clear hx hg1
 go_enter Try.func61, Try.ntmps61
 go_wp2_with fail
 refine (HSH.out _ hB1.out).mono ?_
 rintro _ w2 ⟨rfl, hb⟩
 replace hb := hB1.out.trans (hb.mono hB1.out.size)
 go_wp2
 go_ret
 exact ⟨rfl, hb⟩
def idxT (toks : List S101) : List S43 → Int → Int
 | [], _ => -1
 | x :: xs, i => if oddT toks x then i else idxT toks xs (i + 1)
set_option maxHeartbeats 2000000 in
theorem indexTok_calls (B : Nat) (A : Option Addr) (c : Nat) (xs : List S43) (w : World) (hx : xs.length ≤ 140737488351232) (hA : Kd.C k43 w A xs.length xs) (At : Option Addr) (ct : Nat) (toks : List S101) (hct : toks.length ≤ ct) (hT : Kd.C k101 w At toks.length toks) (hc : w.heap[B]? = some (.cells #[.slice At toks.length ct] 44 (0, 0))) :
  Calls Try.prog 76 #[.slice A xs.length c, .func (.func 61) #[] #[.pointer (some ⟨B, 0, none⟩)]] w fun e w' => e = .returned (.int .i64 (idxT toks xs 0)) ∧ Below w.heap.size w w' := by
 have hcW : ∀ W', Below w.heap.size w W' → Kd.C k101 W' At toks.length toks ∧ W'.heap[B]? = some (.cells #[.slice At toks.length ct] 44 (0, 0)) := fun W' hb => ⟨Kd.C_below hT hb, blk_below hc hb⟩
 obtain ⟨n, hn⟩ : ∃ n, xs.length = n := ⟨_, rfl⟩
 have HA := Lib.hid hA
 have HC := Lib.hid hcW
 have hn1 : n ≤ 140737488351232 := by omega
 rw [hn]
 have HN := Lib.hid hn
 clear hn hA hcW hc hx hT
 go_enter Try.func76, Try.ntmps76
 go_wp2
 go_loopw [8] (fun v wr => ∃ (k : Nat) (rest : List S43), xs.drop k = rest ∧ Hid (idxT toks xs 0 = idxT toks rest k) ∧ v = .int .i64 k ∧ k ≤ n ∧ Below w.heap.size w wr) (fun v _ => n - (intOf v).toNat)
 case atStart => exact ⟨0, xs, rfl, Lib.hid rfl, rfl, by omega, Below.refl _ _⟩
 case round =>
  obtain ⟨k, rest, hr, H, rfl, hk, hB2⟩ := hrel
  by_cases hlt : k < n
  ·have hl2 : (k : Int) < (n : Int) := by omega
   obtain ⟨x, rest, rfl⟩ : ∃ x r, rest = x :: r := by
    cases rest with
    | nil =>
     have := congrArg List.length hr
     simp at this
     have := HN.out
     omega
    | cons x r => exact ⟨x, r, rfl⟩
   have hxk : xs[k]? = some x := by
    have := congrArg (fun l => l[0]?) hr
    simpa using this
   have hr' : xs.drop (k + 1) = rest := by
    have := congrArg List.tail hr
    simpa using this
   have HR := Lib.hid hr'
   obtain ⟨ad, e1, q0, q1, q2, q3, q4⟩ := at_T43 (Kd.C_below HA.out hB2) k (by omega) (by have := HN.out; omega)
   cases e1
   have hxx : rd_T43 xs k = x := by
    unfold rd_T43
    rw [Int.toNat_natCast, List.getD_eq_getElem?_getD, hxk]
    rfl
   rw [hxx] at q0 q1 q2 q3 q4
   simp only [Int.toNat_natCast] at q0 q1 q2 q3 q4
   have hcall := oddT_calls At ct toks x B wr hct (HC.out wr hB2).1 (HC.out wr hB2).2
   have hidx : idxT toks xs 0 = if oddT toks x then (k : Int) else idxT toks rest ((k + 1 : Nat) : Int) := by rw [H.out]; rfl
   have HCL := Lib.hid hcall
   have HI := Lib.hid hidx
   clear hr hr' hxk hcall hidx hxx H
   generalize oddT toks x = bb at *
   obtain ⟨f0, f1, f2, f3, f4⟩ := x
   go_wp2_with fail
   refine HCL.out.mono ?_
   rintro e w' ⟨rfl, hb'⟩
   clear q0 q1 q2 q3 q4 HCL
   cases bb
   ·go_wp2
    go_roundw
    case rel => exact ⟨k + 1, rest, HR.out, Lib.hid HI.out, by go_num, by omega, hB2.trans (hb'.mono hB2.size)⟩
    case measure => simp [intOf]; omega
   ·go_wp2
    go_ret
    exact ⟨by rw [HI.out]; rfl, hB2.trans (hb'.mono hB2.size)⟩
  ·have hk2 : ¬ (k : Int) < (n : Int) := by omega
   have hnil : rest = [] := by
    rw [← hr]; apply List.drop_eq_nil_of_le; have := HN.out; omega
   subst hnil
   have hi : idxT toks xs 0 = -1 := H.out
   have HI := Lib.hid hi
   clear hi hr H
   go_wp2
   go_ret
   exact ⟨by rw [HI.out]; rfl, hB2⟩
theorem idxT_lt (toks : List S101) (xs : List S43) : ∀ i : Int, 0 ≤ i → (decide (0 ≤ idxT toks xs i) = xs.any (oddT toks)) := by
 induction xs with
 | nil => intro i h; rfl
 | cons x xs ih =>
  intro i h
  by_cases hx : oddT toks x = true
  ·have e : idxT toks (x :: xs) i = i := if_pos hx
   rw [e, List.any_cons, hx]
   simp [h]
  ·have e : idxT toks (x :: xs) i = idxT toks xs (i + 1) := if_neg hx
   rw [e, ih (i + 1) (by omega), List.any_cons]
   simp only [Bool.not_eq_true] at hx
   rw [hx, Bool.false_or]
set_option maxHeartbeats 1000000 in
theorem hasTok_calls (B : Nat) (A : Option Addr) (c : Nat) (xs : List S43) (w : World) (hx : xs.length ≤ 140737488351232) (hA : Kd.C k43 w A xs.length xs) (At : Option Addr) (ct : Nat) (toks : List S101) (hct : toks.length ≤ ct) (hT : Kd.C k101 w At toks.length toks) (hc : w.heap[B]? = some (.cells #[.slice At toks.length ct] 44 (0, 0))) :
  Calls Try.prog 52 #[.slice A xs.length c, .func (.func 61) #[] #[.pointer (some ⟨B, 0, none⟩)]] w fun e w' => e = .returned (.bool (xs.any (oddT toks))) ∧ Below w.heap.size w w' := by
 have h1 := indexTok_calls B A c xs w hx hA At ct toks hct hT hc
 have h2 := idxT_lt toks xs 0 (Int.le_refl _)
 rw [← h2]
 have H1 := Lib.hid h1
 clear h1 h2 hA hc hT
 generalize idxT toks xs 0 = i at *
 go_enter Try.func52, Try.ntmps52
 go_wp2_with fail
 refine H1.out.mono ?_
 rintro e w' ⟨rfl, hb'⟩
 go_wp2
 go_ret
 exact ⟨rfl, hb'⟩
end Go.Proofs.Ytbddfnmhhmkfkaa.Pr
namespace Go.Proofs.Ytbddfnmhhmkfkaa.Pr
open Go.RowKit Go.Proofs.YtbddfnmhhmkfkaaW.PrintWords Go.Proofs.YtbddfnmhhmkfkaaW.PrintLast Go.Proofs.YtbddfnmhhmkfkaaW.PrintMore
attribute [local go_sem] max2_int min2_int max_two min_two max_three min_three max_four min_four
def stylusref19_Place.f (l0 : List (S43)) (a1 : Int) : Option (Bool) := if a1 = (l0.length : Int) then (some true) else (if a1 ≥ 0 then (if a1 < (l0.length : Int) then (if 0 ≤ a1 then (if ((rd_T43 l0 a1).f0) = 2 then (some true) else (some (((rd_T43 l0 a1).f0) == 3))) else (none)) else (some false)) else (some false))
set_option maxHeartbeats 8000000 in
set_option maxRecDepth 100000 in
theorem stylusref19_Place.calls (A0 : Option Addr) (c0 : Nat) (l0 : List (S43)) (a1 : Int) (r : Bool) (w : World) (hr0 : Kd.C k43 w A0 l0.length l0) (hc0 : l0.length ≤ c0) (h : stylusref19_Place.f l0 a1 = some r) :
  Calls Try.prog 40 #[.slice A0 l0.length c0, .int .i64 a1] w fun e w' => e = .returned (.bool r) ∧ Drawn0 w w' := by
 have HR0 := Aside0.mk hr0
 have HC0 := Aside0.mk hc0
 clear hr0 hc0
 have H : (if a1 = (l0.length : Int) then (some true) else (if a1 ≥ 0 then (if a1 < (l0.length : Int) then (if 0 ≤ a1 then (if ((rd_T43 l0 a1).f0) = 2 then (some true) else (some (((rd_T43 l0 a1).f0) == 3))) else (none)) else (some false)) else (some false))) = some r := h
 clear h
 by_cases c3 : a1 = (l0.length : Int)
 ·rw [if_pos c3] at H
  have c3b0 : (a1 == (l0.length : Int)) = true := beq_iff_eq.mpr c3
  have c3b1 : (a1 != (l0.length : Int)) = false := bne_eq_false_iff_eq.mpr c3
  clear c3
  obtain rfl := Option.some.inj H
  go_enter Try.func40, Try.ntmps40
  go_wp2
  go_ret
  exact ⟨by first | rfl | (simp; done) | (simp [*]; done), by repeat (first | exact Drawn0.refl _ | apply Drawn0.step)⟩
 ·rw [if_neg c3] at H
  have c3b0 : (a1 == (l0.length : Int)) = false := beq_eq_false_iff_ne.mpr c3
  have c3b1 : (a1 != (l0.length : Int)) = true := bne_iff_ne.mpr c3
  by_cases c4 : a1 ≥ 0
  ·rw [if_pos c4] at H
   have c4b0 : decide (0 ≤ a1) = true := decide_eq_true c4
   clear c4
   by_cases c5 : a1 < (l0.length : Int)
   ·rw [if_pos c5] at H
    have c5b0 : decide (a1 < (l0.length : Int)) = true := decide_eq_true c5
    clear c5
    by_cases c6 : 0 ≤ a1
    ·rw [if_pos c6] at H
     have c6b0 : decide (0 ≤ a1) = true := decide_eq_true c6
     clear c6
     by_cases c7 : ((rd_T43 l0 a1).f0) = 2
     ·rw [if_pos c7] at H
      have c7b0 : (((rd_T43 l0 a1).f0) == 2) = true := beq_iff_eq.mpr c7
      have c7b1 : (((rd_T43 l0 a1).f0) != 2) = false := bne_eq_false_iff_eq.mpr c7
      clear c7
      obtain rfl := Option.some.inj H
      have p101 : 0 ≤ (a1 : Int) := of_decide_eq_true (by first | (with_reducible assumption) | assumption)
      have q101 : a1 < (l0.length : Int) := of_decide_eq_true (by first | (with_reducible assumption) | assumption)
      obtain ⟨ad101, e101, hx101_0, hx101_1, hx101_2, hx101_3, hx101_4⟩ := at_T43 HR0.out a1 p101 q101
      cases e101
      replace p101 := eq_true p101
      replace q101 := eq_true q101
      go_enter Try.func40, Try.ntmps40
      go_wp2
      go_ret
      exact ⟨by first | rfl | (simp; done) | (simp [*]; done), by repeat (first | exact Drawn0.refl _ | apply Drawn0.step)⟩
     ·rw [if_neg c7] at H
      have c7b0 : (((rd_T43 l0 a1).f0) == 2) = false := beq_eq_false_iff_ne.mpr c7
      have c7b1 : (((rd_T43 l0 a1).f0) != 2) = true := bne_iff_ne.mpr c7
      obtain rfl := Option.some.inj H
      have p101 : 0 ≤ (a1 : Int) := of_decide_eq_true (by first | (with_reducible assumption) | assumption)
      have q101 : a1 < (l0.length : Int) := of_decide_eq_true (by first | (with_reducible assumption) | assumption)
      obtain ⟨ad101, e101, hx101_0, hx101_1, hx101_2, hx101_3, hx101_4⟩ := at_T43 HR0.out a1 p101 q101
      cases e101
      replace p101 := eq_true p101
      replace q101 := eq_true q101
      have p102 : 0 ≤ (a1 : Int) := of_decide_eq_true (by first | (with_reducible assumption) | assumption)
      have q102 : a1 < (l0.length : Int) := of_decide_eq_true (by first | (with_reducible assumption) | assumption)
      obtain ⟨ad102, e102, hx102_0, hx102_1, hx102_2, hx102_3, hx102_4⟩ := at_T43 HR0.out a1 p102 q102
      obtain rfl : ad101 = ad102 := (by injection e102)
      replace p102 := eq_true p102
      replace q102 := eq_true q102
      go_enter Try.func40, Try.ntmps40
      go_wp2
      go_ret
      exact ⟨by first | rfl | (simp; done) | (simp [*]; done), by repeat (first | exact Drawn0.refl _ | apply Drawn0.step)⟩
    ·rw [if_neg c6] at H
     exact absurd H (by simp)
   ·rw [if_neg c5] at H
    have c5b0 : decide (a1 < (l0.length : Int)) = false := decide_eq_false c5
    clear c5
    obtain rfl := Option.some.inj H
    go_enter Try.func40, Try.ntmps40
    go_wp2
    go_ret
    exact ⟨by first | rfl | (simp; done) | (simp [*]; done), by repeat (first | exact Drawn0.refl _ | apply Drawn0.step)⟩
  ·rw [if_neg c4] at H
   have c4b0 : decide (0 ≤ a1) = false := decide_eq_false c4
   clear c4
   obtain rfl := Option.some.inj H
   go_enter Try.func40, Try.ntmps40
   go_wp2
   go_ret
   exact ⟨by first | rfl | (simp; done) | (simp [*]; done), by repeat (first | exact Drawn0.refl _ | apply Drawn0.step)⟩
def best_flow_place.f (l0_0 : List (S43)) (a0_1 : Int) (l0_2 : List (S85)) (a1 : Int) : Option (Bool) := if a1 = (l0_0.length : Int) then (some true) else (if a1 ≥ 0 then (if a1 < (l0_0.length : Int) then ((best_flow_hyphen.f l0_0 a0_1 l0_2 a1).bind fun t108 => (if t108 = true then (some true) else (if 0 ≤ a1 then (some (((rd_T43 l0_0 a1).f0) == 2)) else (none)))) else (some false)) else (some false))
set_option maxHeartbeats 8000000 in
set_option maxRecDepth 100000 in
theorem best_flow_place.calls (A0_0 : Option Addr) (c0_0 : Nat) (l0_0 : List (S43)) (a0_1 : Int) (A0_2 : Option Addr) (c0_2 : Nat) (l0_2 : List (S85)) (a1 : Int) (r : Bool) (w : World) (hr0_0 : Kd.C k43 w A0_0 l0_0.length l0_0) (hc0_0 : l0_0.length ≤ c0_0) (hr0_2 : Kd.C k85 w A0_2 l0_2.length l0_2) (hc0_2 : l0_2.length ≤ c0_2) (h : best_flow_place.f l0_0 a0_1 l0_2 a1 = some r) :
  Calls Try.prog 53 #[.agg #[.slice A0_0 l0_0.length c0_0, .int .i64 a0_1, .slice A0_2 l0_2.length c0_2], .int .i64 a1] w fun e w' => e = .returned (.bool r) ∧ Below w.heap.size w w' := by
 have hu67 := Try.underlying67
 have HR0_0 := Aside0.mk hr0_0
 have HC0_0 := Aside0.mk hc0_0
 clear hr0_0 hc0_0
 have HR0_2 := Aside0.mk hr0_2
 have HC0_2 := Aside0.mk hc0_2
 clear hr0_2 hc0_2
 have HB := Aside0.mk (Below.refl w.heap.size w)
 have H : (if a1 = (l0_0.length : Int) then (some true) else (if a1 ≥ 0 then (if a1 < (l0_0.length : Int) then ((best_flow_hyphen.f l0_0 a0_1 l0_2 a1).bind fun t108 => (if t108 = true then (some true) else (if 0 ≤ a1 then (some (((rd_T43 l0_0 a1).f0) == 2)) else (none)))) else (some false)) else (some false))) = some r := h
 clear h
 by_cases c3 : a1 = (l0_0.length : Int)
 ·rw [if_pos c3] at H
  have c3b0 : (a1 == (l0_0.length : Int)) = true := beq_iff_eq.mpr c3
  have c3b1 : (a1 != (l0_0.length : Int)) = false := bne_eq_false_iff_eq.mpr c3
  clear c3
  obtain rfl := Option.some.inj H
  go_enter Try.func53, Try.ntmps53
  go_wp2_with (first | ((with_reducible refine gate_dst (N := 2) rfl ?_); (try (refine gate_guard (by rfl) ?_; dsimp only)); refine box_event ?hg (N := 2) ?hd (cs := #[.slice A0_0 l0_0.length c0_0, .int .i64 a0_1, .slice A0_2 l0_2.length c0_2]) (t := 67) ?hr ?_; (case hd => rfl); (case hg => rfl); (case hr => first | (go_simp; done) | (go_simp; rfl)); intro gb107 hg w4 hbox hb; have n0_ := Aside0.mk (below_step (by repeat (first | (with_reducible first | exact HB.out | apply below_alloc | apply pw_below_drewN | apply below_drew1) | exact HB.out)) hb); have n1_ := Aside0.mk (hbox); have n2_ := Aside0.mk ((by rw [hg]; exact (below_size (by repeat (first | (with_reducible first | exact HB.out | apply below_alloc | apply pw_below_drewN | apply below_drew1) | exact HB.out))) : w.heap.size ≤ gb107)); have n3_ := Aside0.mk ((by rw [hg]; exact (below_size (by repeat (first | (with_reducible first | exact HB.out | apply below_alloc | apply pw_below_drewN | apply below_drew1) | exact HB.out))) : w.heap.size ≤ gb107)); clear HB; have HB := n0_; have BK107 := n1_; have GW107 := n2_; have GE107 := n3_; clear n0_ n1_ n2_ n3_; clear hb hbox hg; have hcz5_0 : w4.cell? ⟨gb107, 0, none⟩ = some (.slice A0_0 l0_0.length c0_0) := (blk_cell BK107.out 0).trans rfl; have hcz5_1 : w4.cell? ⟨gb107, 1, none⟩ = some (.int .i64 a0_1) := (blk_cell BK107.out 1).trans rfl; have hcz5_2 : w4.cell? ⟨gb107, 2, none⟩ = some (.slice A0_2 l0_2.length c0_2) := (blk_cell BK107.out 2).trans rfl; have hfz5_0 := blk_frozen BK107.out 0; have hfz5_1 := blk_frozen BK107.out 1; have hfz5_2 := blk_frozen BK107.out 2))
  go_ret
  exact ⟨by first | rfl | (simp [errW_none, errW_some] <;> rfl) | (simp [*, errW_none, errW_some] <;> rfl), by repeat (first | (with_reducible first | exact HB.out | apply below_alloc | apply pw_below_drewN | apply below_drew1 | refine below_set ?_ GE107.out) | exact HB.out)⟩
 ·rw [if_neg c3] at H
  have c3b0 : (a1 == (l0_0.length : Int)) = false := beq_eq_false_iff_ne.mpr c3
  have c3b1 : (a1 != (l0_0.length : Int)) = true := bne_iff_ne.mpr c3
  by_cases c6 : a1 ≥ 0
  ·rw [if_pos c6] at H
   have c6b0 : decide (0 ≤ a1) = true := decide_eq_true c6
   clear c6
   by_cases c7 : a1 < (l0_0.length : Int)
   ·rw [if_pos c7] at H
    have c7b0 : decide (a1 < (l0_0.length : Int)) = true := decide_eq_true c7
    clear c7
    replace H := Option.bind_eq_some_iff.mp H
    obtain ⟨t108, A80, H⟩ := H
    replace H : (if t108 = true then (some true) else (if 0 ≤ a1 then (some (((rd_T43 l0_0 a1).f0) == 2)) else (none))) = some r := H
    have A8 := Aside0.mk A80
    clear A80
    by_cases c9 : t108 = true
    ·subst c9
     have H1 : (some true) = some r := by rw [if_pos rfl] at H; exact H
     clear H
     have H := H1
     clear H1
     obtain rfl := Option.some.inj H
     go_enter Try.func53, Try.ntmps53
     go_wp2_with (first | ((with_reducible refine gate_dst (N := 2) rfl ?_); (try (refine gate_guard (by rfl) ?_; dsimp only)); refine box_event ?hg (N := 2) ?hd (cs := #[.slice A0_0 l0_0.length c0_0, .int .i64 a0_1, .slice A0_2 l0_2.length c0_2]) (t := 67) ?hr ?_; (case hd => rfl); (case hg => rfl); (case hr => first | (go_simp; done) | (go_simp; rfl)); intro gb107 hg w10 hbox hb; have n0_ := Aside0.mk (below_step (by repeat (first | (with_reducible first | exact HB.out | apply below_alloc | apply pw_below_drewN | apply below_drew1) | exact HB.out)) hb); have n1_ := Aside0.mk (hbox); have n2_ := Aside0.mk ((by rw [hg]; exact (below_size (by repeat (first | (with_reducible first | exact HB.out | apply below_alloc | apply pw_below_drewN | apply below_drew1) | exact HB.out))) : w.heap.size ≤ gb107)); have n3_ := Aside0.mk ((by rw [hg]; exact (below_size (by repeat (first | (with_reducible first | exact HB.out | apply below_alloc | apply pw_below_drewN | apply below_drew1) | exact HB.out))) : w.heap.size ≤ gb107)); clear HB; have HB := n0_; have BK107 := n1_; have GW107 := n2_; have GE107 := n3_; clear n0_ n1_ n2_ n3_; clear hb hbox hg; have hcz11_0 : w10.cell? ⟨gb107, 0, none⟩ = some (.slice A0_0 l0_0.length c0_0) := (blk_cell BK107.out 0).trans rfl; have hcz11_1 : w10.cell? ⟨gb107, 1, none⟩ = some (.int .i64 a0_1) := (blk_cell BK107.out 1).trans rfl; have hcz11_2 : w10.cell? ⟨gb107, 2, none⟩ = some (.slice A0_2 l0_2.length c0_2) := (blk_cell BK107.out 2).trans rfl; have hfz11_0 := blk_frozen BK107.out 0; have hfz11_1 := blk_frozen BK107.out 1; have hfz11_2 := blk_frozen BK107.out 2) | (go_at_call 75; (with_reducible refine (best_flow_hyphen.calls _ _ l0_0 a0_1 _ _ l0_2 a1 true _ ?side1 ?side2 ?side3 ?side4 A8.out).mono ?_); (case side1 => repeat (first | exact (Kd.C_below HR0_0.out HB.out) | (with_reducible refine Kd.C_alloc ?_ _) | (with_reducible refine Kd.C_drewN ?_ _) | (with_reducible refine Kd.C_drew ?_))); (case side2 => exact HC0_0.out); (case side3 => repeat (first | exact (Kd.C_below HR0_2.out HB.out) | (with_reducible refine Kd.C_alloc ?_ _) | (with_reducible refine Kd.C_drewN ?_ _) | (with_reducible refine Kd.C_drew ?_))); (case side4 => exact HC0_2.out); rintro e w12 ⟨rfl, hb⟩; have n0_ := Aside0.mk (blk_below (g := gb107) (o := .cells #[.slice A0_0 l0_0.length c0_0, .int .i64 a0_1, .slice A0_2 l0_2.length c0_2] 67 (0, 0)) (by (with_reducible repeat (first | refine blk_drewN ?_ _ | refine blk_drew ?_ | refine blk_alloc ?_ _)); exact BK107.out) hb); have n1_ := Aside0.mk (below_step (by repeat (first | (with_reducible first | exact HB.out | apply below_alloc | apply pw_below_drewN | apply below_drew1 | refine below_set ?_ GE107.out) | exact HB.out)) hb); clear BK107; clear HB; have BK107 := n0_; have HB := n1_; clear n0_ n1_; (try clear hb); (try clear hb2); (try clear hk); (try clear hi)))
     go_ret
     exact ⟨by first | rfl | (simp [errW_none, errW_some] <;> rfl) | (simp [*, errW_none, errW_some] <;> rfl), by repeat (first | (with_reducible first | exact HB.out | apply below_alloc | apply pw_below_drewN | apply below_drew1 | refine below_set ?_ GE107.out) | exact HB.out)⟩
    ·replace c9 := Bool.eq_false_iff.mpr c9
     subst c9
     have H1 : (if 0 ≤ a1 then (some (((rd_T43 l0_0 a1).f0) == 2)) else (none)) = some r := by rw [if_neg (show ¬ (false = true) by decide)] at H; exact H
     clear H
     have H := H1
     clear H1
     by_cases c13 : 0 ≤ a1
     ·rw [if_pos c13] at H
      have c13b0 : decide (0 ≤ a1) = true := decide_eq_true c13
      clear c13
      obtain rfl := Option.some.inj H
      go_enter Try.func53, Try.ntmps53
      go_wp2_with (first | ((with_reducible refine gate_dst (N := 2) rfl ?_); (try (refine gate_guard (by rfl) ?_; dsimp only)); refine box_event ?hg (N := 2) ?hd (cs := #[.slice A0_0 l0_0.length c0_0, .int .i64 a0_1, .slice A0_2 l0_2.length c0_2]) (t := 67) ?hr ?_; (case hd => rfl); (case hg => rfl); (case hr => first | (go_simp; done) | (go_simp; rfl)); intro gb107 hg w14 hbox hb; have n0_ := Aside0.mk (below_step (by repeat (first | (with_reducible first | exact HB.out | apply below_alloc | apply pw_below_drewN | apply below_drew1) | exact HB.out)) hb); have n1_ := Aside0.mk (hbox); have n2_ := Aside0.mk ((by rw [hg]; exact (below_size (by repeat (first | (with_reducible first | exact HB.out | apply below_alloc | apply pw_below_drewN | apply below_drew1) | exact HB.out))) : w.heap.size ≤ gb107)); have n3_ := Aside0.mk ((by rw [hg]; exact (below_size (by repeat (first | (with_reducible first | exact HB.out | apply below_alloc | apply pw_below_drewN | apply below_drew1) | exact HB.out))) : w.heap.size ≤ gb107)); clear HB; have HB := n0_; have BK107 := n1_; have GW107 := n2_; have GE107 := n3_; clear n0_ n1_ n2_ n3_; clear hb hbox hg; have hcz15_0 : w14.cell? ⟨gb107, 0, none⟩ = some (.slice A0_0 l0_0.length c0_0) := (blk_cell BK107.out 0).trans rfl; have hcz15_1 : w14.cell? ⟨gb107, 1, none⟩ = some (.int .i64 a0_1) := (blk_cell BK107.out 1).trans rfl; have hcz15_2 : w14.cell? ⟨gb107, 2, none⟩ = some (.slice A0_2 l0_2.length c0_2) := (blk_cell BK107.out 2).trans rfl; have hfz15_0 := blk_frozen BK107.out 0; have hfz15_1 := blk_frozen BK107.out 1; have hfz15_2 := blk_frozen BK107.out 2) | (go_at_call 75; (with_reducible refine (best_flow_hyphen.calls _ _ l0_0 a0_1 _ _ l0_2 a1 false _ ?side1 ?side2 ?side3 ?side4 A8.out).mono ?_); (case side1 => repeat (first | exact (Kd.C_below HR0_0.out HB.out) | (with_reducible refine Kd.C_alloc ?_ _) | (with_reducible refine Kd.C_drewN ?_ _) | (with_reducible refine Kd.C_drew ?_))); (case side2 => exact HC0_0.out); (case side3 => repeat (first | exact (Kd.C_below HR0_2.out HB.out) | (with_reducible refine Kd.C_alloc ?_ _) | (with_reducible refine Kd.C_drewN ?_ _) | (with_reducible refine Kd.C_drew ?_))); (case side4 => exact HC0_2.out); rintro e w16 ⟨rfl, hb⟩; have n0_ := Aside0.mk (blk_below (g := gb107) (o := .cells #[.slice A0_0 l0_0.length c0_0, .int .i64 a0_1, .slice A0_2 l0_2.length c0_2] 67 (0, 0)) (by (with_reducible repeat (first | refine blk_drewN ?_ _ | refine blk_drew ?_ | refine blk_alloc ?_ _)); exact BK107.out) hb); have n1_ := Aside0.mk (below_step (by repeat (first | (with_reducible first | exact HB.out | apply below_alloc | apply pw_below_drewN | apply below_drew1 | refine below_set ?_ GE107.out) | exact HB.out)) hb); clear BK107; clear HB; have BK107 := n0_; have HB := n1_; clear n0_ n1_; (try clear hb); (try clear hb2); (try clear hk); (try clear hi); have hcz17_0 : w16.cell? ⟨gb107, 0, none⟩ = some (.slice A0_0 l0_0.length c0_0) := (blk_cell BK107.out 0).trans rfl; have hcz17_1 : w16.cell? ⟨gb107, 1, none⟩ = some (.int .i64 a0_1) := (blk_cell BK107.out 1).trans rfl; have hcz17_2 : w16.cell? ⟨gb107, 2, none⟩ = some (.slice A0_2 l0_2.length c0_2) := (blk_cell BK107.out 2).trans rfl; have hfz17_0 := blk_frozen BK107.out 0; have hfz17_1 := blk_frozen BK107.out 1; have hfz17_2 := blk_frozen BK107.out 2; have p109 : 0 ≤ (a1 : Int) := of_decide_eq_true (by first | (with_reducible assumption) | assumption); have q109 : a1 < (l0_0.length : Int) := of_decide_eq_true (by first | (with_reducible assumption) | assumption); obtain ⟨ad109, e109, hx109_0, hx109_1, hx109_2, hx109_3, hx109_4⟩ := at_T43 HR0_0.out a1 p109 q109; cases e109; replace hx109_0 := (HB.out.cell (World.block_lt_of_cell? w _ hx109_0)).trans hx109_0; replace hx109_1 := (HB.out.cell (World.block_lt_of_cell? w _ hx109_1)).trans hx109_1; replace hx109_2 := (HB.out.cell (World.block_lt_of_cell? w _ hx109_2)).trans hx109_2; replace hx109_3 := (HB.out.cell (World.block_lt_of_cell? w _ hx109_3)).trans hx109_3; replace hx109_4 := (HB.out.cell (World.block_lt_of_cell? w _ hx109_4)).trans hx109_4; replace p109 := eq_true p109; replace q109 := eq_true q109))
      go_ret
      exact ⟨by first | rfl | (simp [errW_none, errW_some] <;> rfl) | (simp [*, errW_none, errW_some] <;> rfl), by repeat (first | (with_reducible first | exact HB.out | apply below_alloc | apply pw_below_drewN | apply below_drew1 | refine below_set ?_ GE107.out) | exact HB.out)⟩
     ·rw [if_neg c13] at H
      exact absurd H (by simp)
   ·rw [if_neg c7] at H
    have c7b0 : decide (a1 < (l0_0.length : Int)) = false := decide_eq_false c7
    clear c7
    obtain rfl := Option.some.inj H
    go_enter Try.func53, Try.ntmps53
    go_wp2_with (first | ((with_reducible refine gate_dst (N := 2) rfl ?_); (try (refine gate_guard (by rfl) ?_; dsimp only)); refine box_event ?hg (N := 2) ?hd (cs := #[.slice A0_0 l0_0.length c0_0, .int .i64 a0_1, .slice A0_2 l0_2.length c0_2]) (t := 67) ?hr ?_; (case hd => rfl); (case hg => rfl); (case hr => first | (go_simp; done) | (go_simp; rfl)); intro gb107 hg w18 hbox hb; have n0_ := Aside0.mk (below_step (by repeat (first | (with_reducible first | exact HB.out | apply below_alloc | apply pw_below_drewN | apply below_drew1) | exact HB.out)) hb); have n1_ := Aside0.mk (hbox); have n2_ := Aside0.mk ((by rw [hg]; exact (below_size (by repeat (first | (with_reducible first | exact HB.out | apply below_alloc | apply pw_below_drewN | apply below_drew1) | exact HB.out))) : w.heap.size ≤ gb107)); have n3_ := Aside0.mk ((by rw [hg]; exact (below_size (by repeat (first | (with_reducible first | exact HB.out | apply below_alloc | apply pw_below_drewN | apply below_drew1) | exact HB.out))) : w.heap.size ≤ gb107)); clear HB; have HB := n0_; have BK107 := n1_; have GW107 := n2_; have GE107 := n3_; clear n0_ n1_ n2_ n3_; clear hb hbox hg; have hcz19_0 : w18.cell? ⟨gb107, 0, none⟩ = some (.slice A0_0 l0_0.length c0_0) := (blk_cell BK107.out 0).trans rfl; have hcz19_1 : w18.cell? ⟨gb107, 1, none⟩ = some (.int .i64 a0_1) := (blk_cell BK107.out 1).trans rfl; have hcz19_2 : w18.cell? ⟨gb107, 2, none⟩ = some (.slice A0_2 l0_2.length c0_2) := (blk_cell BK107.out 2).trans rfl; have hfz19_0 := blk_frozen BK107.out 0; have hfz19_1 := blk_frozen BK107.out 1; have hfz19_2 := blk_frozen BK107.out 2))
    go_ret
    exact ⟨by first | rfl | (simp [errW_none, errW_some] <;> rfl) | (simp [*, errW_none, errW_some] <;> rfl), by repeat (first | (with_reducible first | exact HB.out | apply below_alloc | apply pw_below_drewN | apply below_drew1 | refine below_set ?_ GE107.out) | exact HB.out)⟩
  ·rw [if_neg c6] at H
   have c6b0 : decide (0 ≤ a1) = false := decide_eq_false c6
   clear c6
   obtain rfl := Option.some.inj H
   go_enter Try.func53, Try.ntmps53
   go_wp2_with (first | ((with_reducible refine gate_dst (N := 2) rfl ?_); (try (refine gate_guard (by rfl) ?_; dsimp only)); refine box_event ?hg (N := 2) ?hd (cs := #[.slice A0_0 l0_0.length c0_0, .int .i64 a0_1, .slice A0_2 l0_2.length c0_2]) (t := 67) ?hr ?_; (case hd => rfl); (case hg => rfl); (case hr => first | (go_simp; done) | (go_simp; rfl)); intro gb107 hg w20 hbox hb; have n0_ := Aside0.mk (below_step (by repeat (first | (with_reducible first | exact HB.out | apply below_alloc | apply pw_below_drewN | apply below_drew1) | exact HB.out)) hb); have n1_ := Aside0.mk (hbox); have n2_ := Aside0.mk ((by rw [hg]; exact (below_size (by repeat (first | (with_reducible first | exact HB.out | apply below_alloc | apply pw_below_drewN | apply below_drew1) | exact HB.out))) : w.heap.size ≤ gb107)); have n3_ := Aside0.mk ((by rw [hg]; exact (below_size (by repeat (first | (with_reducible first | exact HB.out | apply below_alloc | apply pw_below_drewN | apply below_drew1) | exact HB.out))) : w.heap.size ≤ gb107)); clear HB; have HB := n0_; have BK107 := n1_; have GW107 := n2_; have GE107 := n3_; clear n0_ n1_ n2_ n3_; clear hb hbox hg; have hcz21_0 : w20.cell? ⟨gb107, 0, none⟩ = some (.slice A0_0 l0_0.length c0_0) := (blk_cell BK107.out 0).trans rfl; have hcz21_1 : w20.cell? ⟨gb107, 1, none⟩ = some (.int .i64 a0_1) := (blk_cell BK107.out 1).trans rfl; have hcz21_2 : w20.cell? ⟨gb107, 2, none⟩ = some (.slice A0_2 l0_2.length c0_2) := (blk_cell BK107.out 2).trans rfl; have hfz21_0 := blk_frozen BK107.out 0; have hfz21_1 := blk_frozen BK107.out 1; have hfz21_2 := blk_frozen BK107.out 2))
   go_ret
   exact ⟨by first | rfl | (simp [errW_none, errW_some] <;> rfl) | (simp [*, errW_none, errW_some] <;> rfl), by repeat (first | (with_reducible first | exact HB.out | apply below_alloc | apply pw_below_drewN | apply below_drew1 | refine below_set ?_ GE107.out) | exact HB.out)⟩
def best_sums_less.f (a0_0 : Int) (a0_1 : Int) (a0_2 : Int) (a1_0 : Int) (a1_1 : Int) (a1_2 : Int) : Option (Int × Int × Int) := some (wrap64 (a0_0 - a1_0), wrap64 (a0_1 - a1_1), wrap64 (a0_2 - a1_2))
set_option maxHeartbeats 8000000 in
set_option maxRecDepth 100000 in
theorem best_sums_less.calls (a0_0 : Int) (a0_1 : Int) (a0_2 : Int) (a1_0 : Int) (a1_1 : Int) (a1_2 : Int) (r1 : Int) (r2 : Int) (r3 : Int) (w : World) (h : best_sums_less.f a0_0 a0_1 a0_2 a1_0 a1_1 a1_2 = some (r1, r2, r3)) :
  Calls Try.prog 77 #[.agg #[.int .i64 a0_0, .int .i64 a0_1, .int .i64 a0_2], .agg #[.int .i64 a1_0, .int .i64 a1_1, .int .i64 a1_2]] w fun e w' => e = .returned (.agg #[.int .i64 r1, .int .i64 r2, .int .i64 r3]) ∧ Below w.heap.size w w' := by
 have hu85 := Try.underlying85
 have HB := Aside0.mk (Below.refl w.heap.size w)
 have H : (some (wrap64 (a0_0 - a1_0), wrap64 (a0_1 - a1_1), wrap64 (a0_2 - a1_2))) = some (r1, r2, r3) := h
 clear h
 simp only [Option.some.injEq, Prod.mk.injEq] at H
 obtain ⟨rfl, rfl, rfl⟩ := H
 go_enter Try.func77, Try.ntmps77
 go_wp2_with (first | ((with_reducible refine gate_dst (N := 2) rfl ?_); refine box_event ?hg (N := 2) ?hd (cs := #[.int .i64 a0_0, .int .i64 a0_1, .int .i64 a0_2]) (t := 85) ?hr ?_; (case hd => rfl); (case hg => rfl); (case hr => first | (go_simp; done) | (go_simp; rfl)); intro gb110 hg w3 hbox hb; have n0_ := Aside0.mk (below_step (by repeat (first | (with_reducible first | exact HB.out | apply below_alloc | apply pw_below_drewN | apply below_drew1) | exact HB.out)) hb); have n1_ := Aside0.mk (hbox); have n2_ := Aside0.mk ((by rw [hg]; exact (below_size (by repeat (first | (with_reducible first | exact HB.out | apply below_alloc | apply pw_below_drewN | apply below_drew1) | exact HB.out))) : w.heap.size ≤ gb110)); have n3_ := Aside0.mk ((by rw [hg]; exact (below_size (by repeat (first | (with_reducible first | exact HB.out | apply below_alloc | apply pw_below_drewN | apply below_drew1) | exact HB.out))) : w.heap.size ≤ gb110)); clear HB; have HB := n0_; have BK110 := n1_; have GW110 := n2_; have GE110 := n3_; clear n0_ n1_ n2_ n3_; clear hb hbox hg) | ((with_reducible refine gate_dst (N := 3) rfl ?_); refine box_event ?hg (N := 3) ?hd (cs := #[.int .i64 a1_0, .int .i64 a1_1, .int .i64 a1_2]) (t := 85) ?hr ?_; (case hd => rfl); (case hg => rfl); (case hr => first | (go_simp; done) | (go_simp; rfl)); intro gb111 hg w4 hbox hb; have n0_ := Aside0.mk (blk_below (g := gb110) (o := .cells #[.int .i64 a0_0, .int .i64 a0_1, .int .i64 a0_2] 85 (0, 0)) (by (with_reducible repeat (first | refine blk_drewN ?_ _ | refine blk_drew ?_ | refine blk_alloc ?_ _)); exact BK110.out) hb); have n1_ := Aside0.mk (below_step (by repeat (first | (with_reducible first | exact HB.out | apply below_alloc | apply pw_below_drewN | apply below_drew1 | refine below_set ?_ GE110.out) | exact HB.out)) hb); have n2_ := Aside0.mk (hbox); have n3_ := Aside0.mk ((by rw [hg]; exact (below_size (by repeat (first | (with_reducible first | exact HB.out | apply below_alloc | apply pw_below_drewN | apply below_drew1 | refine below_set ?_ GE110.out) | exact HB.out))) : w.heap.size ≤ gb111)); have n4_ := Aside0.mk ((by rw [hg]; exact (below_size (by repeat (first | (with_reducible first | exact HB.out | apply below_alloc | apply pw_below_drewN | apply below_drew1 | refine below_set ?_ GE110.out) | exact HB.out))) : w.heap.size ≤ gb111)); have n5_ := Aside0.mk ((by rw [hg]; exact Nat.ne_of_lt (blk_lt (g := gb110) (o := .cells #[.int .i64 a0_0, .int .i64 a0_1, .int .i64 a0_2] 85 (0, 0)) (by (with_reducible repeat (first | refine blk_drewN ?_ _ | refine blk_drew ?_ | refine blk_alloc ?_ _)); exact BK110.out)) : gb110 ≠ gb111)); have n6_ := Aside0.mk ((by rw [hg]; exact Nat.ne_of_gt (blk_lt (g := gb110) (o := .cells #[.int .i64 a0_0, .int .i64 a0_1, .int .i64 a0_2] 85 (0, 0)) (by (with_reducible repeat (first | refine blk_drewN ?_ _ | refine blk_drew ?_ | refine blk_alloc ?_ _)); exact BK110.out)) : gb111 ≠ gb110)); clear BK110; clear HB; have BK110 := n0_; have HB := n1_; have BK111 := n2_; have GW111 := n3_; have GE111 := n4_; have NB110_111 := n5_; have NB111_110 := n6_; clear n0_ n1_ n2_ n3_ n4_ n5_ n6_; clear hb hbox hg) | ((with_reducible refine gate_dst (N := 4) rfl ?_); refine box_event ?hg (N := 4) ?hd (cs := #[.int .i64 0, .int .i64 0, .int .i64 0]) (t := 85) ?hr ?_; (case hd => rfl); (case hg => rfl); (case hr => first | (go_simp; done) | (go_simp; rfl)); intro gb112 hg w5 hbox hb; have n0_ := Aside0.mk (blk_below (g := gb110) (o := .cells #[.int .i64 a0_0, .int .i64 a0_1, .int .i64 a0_2] 85 (0, 0)) (by (with_reducible repeat (first | refine blk_drewN ?_ _ | refine blk_drew ?_ | refine blk_alloc ?_ _)); exact BK110.out) hb); have n1_ := Aside0.mk (blk_below (g := gb111) (o := .cells #[.int .i64 a1_0, .int .i64 a1_1, .int .i64 a1_2] 85 (0, 0)) (by (with_reducible repeat (first | refine blk_drewN ?_ _ | refine blk_drew ?_ | refine blk_alloc ?_ _)); exact BK111.out) hb); have n2_ := Aside0.mk (below_step (by repeat (first | (with_reducible first | exact HB.out | apply below_alloc | apply pw_below_drewN | apply below_drew1 | refine below_set ?_ GE110.out | refine below_set ?_ GE111.out) | exact HB.out)) hb); have n3_ := Aside0.mk (hbox); have n4_ := Aside0.mk ((by rw [hg]; exact (below_size (by repeat (first | (with_reducible first | exact HB.out | apply below_alloc | apply pw_below_drewN | apply below_drew1 | refine below_set ?_ GE110.out | refine below_set ?_ GE111.out) | exact HB.out))) : w.heap.size ≤ gb112)); have n5_ := Aside0.mk ((by rw [hg]; exact (below_size (by repeat (first | (with_reducible first | exact HB.out | apply below_alloc | apply pw_below_drewN | apply below_drew1 | refine below_set ?_ GE110.out | refine below_set ?_ GE111.out) | exact HB.out))) : w.heap.size ≤ gb112)); have n6_ := Aside0.mk ((by rw [hg]; exact Nat.ne_of_lt (blk_lt (g := gb110) (o := .cells #[.int .i64 a0_0, .int .i64 a0_1, .int .i64 a0_2] 85 (0, 0)) (by (with_reducible repeat (first | refine blk_drewN ?_ _ | refine blk_drew ?_ | refine blk_alloc ?_ _)); exact BK110.out)) : gb110 ≠ gb112)); have n7_ := Aside0.mk ((by rw [hg]; exact Nat.ne_of_gt (blk_lt (g := gb110) (o := .cells #[.int .i64 a0_0, .int .i64 a0_1, .int .i64 a0_2] 85 (0, 0)) (by (with_reducible repeat (first | refine blk_drewN ?_ _ | refine blk_drew ?_ | refine blk_alloc ?_ _)); exact BK110.out)) : gb112 ≠ gb110)); have n8_ := Aside0.mk ((by rw [hg]; exact Nat.ne_of_lt (blk_lt (g := gb111) (o := .cells #[.int .i64 a1_0, .int .i64 a1_1, .int .i64 a1_2] 85 (0, 0)) (by (with_reducible repeat (first | refine blk_drewN ?_ _ | refine blk_drew ?_ | refine blk_alloc ?_ _)); exact BK111.out)) : gb111 ≠ gb112)); have n9_ := Aside0.mk ((by rw [hg]; exact Nat.ne_of_gt (blk_lt (g := gb111) (o := .cells #[.int .i64 a1_0, .int .i64 a1_1, .int .i64 a1_2] 85 (0, 0)) (by (with_reducible repeat (first | refine blk_drewN ?_ _ | refine blk_drew ?_ | refine blk_alloc ?_ _)); exact BK111.out)) : gb112 ≠ gb111)); clear BK110; clear BK111; clear HB; have BK110 := n0_; have BK111 := n1_; have HB := n2_; have BK112 := n3_; have GW112 := n4_; have GE112 := n5_; have NB110_112 := n6_; have NB112_110 := n7_; have NB111_112 := n8_; have NB112_111 := n9_; clear n0_ n1_ n2_ n3_ n4_ n5_ n6_ n7_ n8_ n9_; clear hb hbox hg; have hnb6 := NB110_111.out; have hnc6 := NB111_110.out; have hnb7 := NB110_112.out; have hnc7 := NB112_110.out; have hcz8_0 : w5.cell? ⟨gb110, 0, none⟩ = some (.int .i64 a0_0) := (blk_cell BK110.out 0).trans rfl; have hcz8_1 : w5.cell? ⟨gb110, 1, none⟩ = some (.int .i64 a0_1) := (blk_cell BK110.out 1).trans rfl; have hcz8_2 : w5.cell? ⟨gb110, 2, none⟩ = some (.int .i64 a0_2) := (blk_cell BK110.out 2).trans rfl; have hfz8_0 := blk_frozen BK110.out 0; have hfz8_1 := blk_frozen BK110.out 1; have hfz8_2 := blk_frozen BK110.out 2; have hnb9 := NB111_112.out; have hnc9 := NB112_111.out; have hcz10_0 : w5.cell? ⟨gb111, 0, none⟩ = some (.int .i64 a1_0) := (blk_cell BK111.out 0).trans rfl; have hcz10_1 : w5.cell? ⟨gb111, 1, none⟩ = some (.int .i64 a1_1) := (blk_cell BK111.out 1).trans rfl; have hcz10_2 : w5.cell? ⟨gb111, 2, none⟩ = some (.int .i64 a1_2) := (blk_cell BK111.out 2).trans rfl; have hfz10_0 := blk_frozen BK111.out 0; have hfz10_1 := blk_frozen BK111.out 1; have hfz10_2 := blk_frozen BK111.out 2; have hcz11_0 : w5.cell? ⟨gb112, 0, none⟩ = some (.int .i64 0) := (blk_cell BK112.out 0).trans rfl; have hcz11_1 : w5.cell? ⟨gb112, 1, none⟩ = some (.int .i64 0) := (blk_cell BK112.out 1).trans rfl; have hcz11_2 : w5.cell? ⟨gb112, 2, none⟩ = some (.int .i64 0) := (blk_cell BK112.out 2).trans rfl; have hfz11_0 := blk_frozen BK112.out 0; have hfz11_1 := blk_frozen BK112.out 1; have hfz11_2 := blk_frozen BK112.out 2))
 refine bodyPost_ret (results_cell_row rfl _ _ gb112 85 #[.int .i64 (wrap64 (a0_0 - a1_0)), .int .i64 (wrap64 (a0_1 - a1_1)), .int .i64 (wrap64 (a0_2 - a1_2))] (0, 0) _ rfl (by (with_reducible repeat (first | refine blk_drewN ?_ _ | refine blk_drew ?_ | refine blk_alloc ?_ _)); refine blk_put (cs := #[.int .i64 (wrap64 (a0_0 - a1_0)), .int .i64 (wrap64 (a0_1 - a1_1)), .int .i64 0]) ?_ 2 _ rfl; (with_reducible repeat (first | refine blk_drewN ?_ _ | refine blk_drew ?_ | refine blk_alloc ?_ _)); refine blk_put (cs := #[.int .i64 (wrap64 (a0_0 - a1_0)), .int .i64 0, .int .i64 0]) ?_ 1 _ rfl; (with_reducible repeat (first | refine blk_drewN ?_ _ | refine blk_drew ?_ | refine blk_alloc ?_ _)); refine blk_put (cs := #[.int .i64 0, .int .i64 0, .int .i64 0]) ?_ 0 _ rfl; (with_reducible repeat (first | refine blk_drewN ?_ _ | refine blk_drew ?_ | refine blk_alloc ?_ _)); exact BK112.out) Try.underlying85 rfl (by kernel_rfl)) rfl ?_
 exact ⟨by first | rfl | (simp [errW_none, errW_some] <;> rfl) | (simp [*, errW_none, errW_some] <;> rfl), by repeat (first | (with_reducible first | exact HB.out | apply below_alloc | apply pw_below_drewN | apply below_drew1 | refine below_set ?_ GE110.out | refine below_set ?_ GE111.out | refine below_set ?_ GE112.out) | exact HB.out)⟩
end Go.Proofs.Ytbddfnmhhmkfkaa.Pr
