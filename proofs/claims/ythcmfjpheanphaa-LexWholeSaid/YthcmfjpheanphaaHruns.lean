import Derived.Test.YthcmfjpheanphaaHclass
import Derived.RangeFuncNested
import Derived.RangeFuncBound
import Derived.RangeFuncCalls
import Derived.RangeFuncLeaves
import Derived.Shelf.Abstract
import Derived.Shelf.RegionOpen
import Derived.OwnWalkIn
import Derived.TacticsInMore
import Derived.LoopNIn
import Derived.LoopIn
import Derived.RangeFuncBox
namespace Go.Proofs.Ythcmfjpheanphaa.Pr
open Go.RowKit Go.Shelf Go.Proofs.YthcmfjpheanphaaW.PrintWords
attribute [local go_sem] Oper.semAt_some

/-- the class of the byte at a place -/
def clsAt (s : ByteArray) (i : Nat) : Int := classP (bt s i)
/-- where the run that goes on at 'q' ends -/
def runTo (s : ByteArray) (c : Int) : Nat → Nat → Nat
  | 0, q => q
  | d + 1, q => if q < s.size ∧ clsAt s q = c then runTo s c d (q + 1) else q
/-- the runs from a place on -/
def runsL (s : ByteArray) : Nat → Nat → List S27
  | 0, _ => []
  | d + 1, i => if i < s.size then
      ⟨i, s.extract i (runTo s (clsAt s i) s.size (i + 1))⟩ :: runsL s d (runTo s (clsAt s i) s.size (i + 1)) else []
theorem runTo_le (s : ByteArray) (c : Int) : ∀ d q, q ≤ runTo s c d q
  | 0, q => Nat.le_refl _
  | d + 1, q => by
    unfold runTo
    split
    · have := runTo_le s c d (q + 1); omega
    · exact Nat.le_refl _
theorem runTo_size (s : ByteArray) (c : Int) : ∀ d q, q ≤ s.size → runTo s c d q ≤ s.size
  | 0, q, h => h
  | d + 1, q, h => by
    unfold runTo
    split
    · rename_i hc; exact runTo_size s c d (q + 1) (by omega)
    · exact h
/-- more steps change nothing -/
theorem runTo_stop (s : ByteArray) (c : Int) : ∀ d q, ¬ (q < s.size ∧ clsAt s q = c) → runTo s c d q = q
  | 0, q, _ => rfl
  | d + 1, q, h => by unfold runTo; rw [if_neg h]
theorem runTo_more (s : ByteArray) (c : Int) : ∀ d e q, s.size ≤ d + q → s.size ≤ e + q → runTo s c d q = runTo s c e q
  | 0, e, q, h, _ => by rw [runTo_stop s c e q (by omega)]; rfl
  | d + 1, 0, q, _, h => by rw [runTo_stop s c (d + 1) q (by omega)]; rfl
  | d + 1, e + 1, q, h, h' => by
    simp only [runTo]
    split
    · exact runTo_more s c d e (q + 1) (by omega) (by omega)
    · rfl
theorem runTo_step (s : ByteArray) (c : Int) (q : Nat) (h : q < s.size ∧ clsAt s q = c) : runTo s c s.size q = runTo s c s.size (q + 1) := by
  cases hn : s.size with
  | zero => omega
  | succ n =>
    rw [show runTo s c (n + 1) q = runTo s c n (q + 1) by simp only [runTo]; rw [if_pos h]]
    exact runTo_more s c n (n + 1) (q + 1) (by omega) (by omega)

/-- a piece of a text, at its place -/
def RunT (s : ByteArray) : Type := { x : S27 // ∃ k q : Nat, k < q ∧ q ≤ s.size ∧ x = ⟨k, s.extract k q⟩ }
def mkRun {s : ByteArray} (k q : Nat) (h1 : k < q) (h2 : q ≤ s.size) : RunT s := ⟨⟨k, s.extract k q⟩, k, q, h1, h2, rfl⟩
def valsR {s : ByteArray} (l : List (RunT s)) : List S27 := l.map (·.1)
theorem valsR_snoc {s : ByteArray} (l : List (RunT s)) (x : RunT s) : valsR (l ++ [x]) = valsR l ++ [x.1] := by simp [valsR]
abbrev encR {s : ByteArray} (x : RunT s) : Array Value := #[.int .i64 x.1.f0, .string x.1.f1]

/-- one block stays as it lay -/
def KB (B : Nat) (W W' : World) : Prop := W'.heap[B]? = W.heap[B]?
theorem KB_t {B : Nat} {X Y Z : World} (h : KB B X Y) (k : KB B Y Z) : KB B X Z := Eq.trans k h
theorem KB_b {B : Nat} {w : World} (hB : B < w.heap.size) (W : World) (l : Nat) (o o' : Obj) (hl : w.heap.size ≤ l) (_ : W.heap[l]? = some o) (_ : o.isCells = false) (_ : o.isWalk = false) : KB B W (W.putObj l o') := by
  unfold KB
  exact World.putObj_heap_other (by omega)
theorem boxed_keptB {W W' : World} {B : Nat} {t : TypeId} {v : Value} (h : Boxed W B t v) (hk : KB B W W') : Boxed W' B t v := Eq.trans hk h
theorem boxed_below {W W' : World} {B : Nat} {t : TypeId} {v : Value} (h : Boxed W B t v) (hb : Below W.heap.size W W') : Boxed W' B t v := h.kept (grown_of_below hb none) (by simp)

set_option maxRecDepth 100000 in
set_option maxHeartbeats 1000000 in
theorem runs1_in (n : Nat) (hn : 1 ≤ n) (l Bs : Nat) (s : ByteArray) (hs : s.size ≤ 9223372036854775807) (J Jx : List (RunT s) → World → Prop) (W : World) (hJ : AbidesFrom W.heap.size J)
    (hY : ∀ pre x W, J pre W → pre.length < s.size → YieldAt Fence.wide (n - 1) Try.prog l (encR x) W fun e W' =>
      (e = .returned (.bool true) ∧ J (pre ++ [x]) W' ∧ KB Bs W W') ∨ (e = .returned (.bool false) ∧ Jx (pre ++ [x]) W'))
    (hb : Boxed W Bs 9 (.string s)) (h0 : J [] W) :
    CallsIn Fence.wide n Try.prog 79 #[.func (.yield l) #[] #[], .pointer (some ⟨Bs, 0, none⟩)] W fun e W' => (∃ v, e = .returned v) ∧
      ((∃ ys, valsR ys = runsL s s.size 0 ∧ J ys W') ∨ (∃ pre, valsR pre <+: runsL s s.size 0 ∧ Jx pre W')) := by
  refine callsIn_of_wp Try.func79 rfl trivial ?_ rfl
  simp only [Try.ntmps79, List.size_toArray, List.length_cons, List.length_nil, Nat.reduceAdd, Nat.reduceSub, Array.replicate_succ, Array.replicate_zero, List.push_toArray, List.append_toArray, List.nil_append, List.cons_append]
  gi_wp2
  gi_loopw [3] (fun i wr => ∃ (k d : Nat) (pre : List (RunT s)), k ≤ s.size ∧ i = .int .i64 k ∧ s.size ≤ k + d ∧ runsL s s.size 0 = valsR pre ++ runsL s d k ∧ pre.length ≤ k ∧ J pre wr ∧ Boxed wr Bs 9 (.string s))
    (fun i _ => s.size - (intOf i).toNat)
  case atStart => exact ⟨0, s.size, [], Nat.zero_le _, rfl, by omega, rfl, Nat.le_refl _, h0, hb⟩
  case round =>
    obtain ⟨k, d, pre, hk, rfl, hd, hL, hpl, hJs, hB⟩ := hrel
    have hcx := hB.cell
    by_cases hlt : k < s.size
    · have hbr := bt_range s k
      have hbt := bt_at s k
      have hcls : classB (bt s k) = clsAt s k := classB_eq _ hbr.1 (by omega)
      have hg : ((s[k].toNat : Nat) : Int) = bt s k := by simp [bt, hlt]
      have hs0 : ∃ c, clsAt s k = c := ⟨_, rfl⟩
      obtain ⟨c, hcc⟩ := hs0
      have H1 := Lib.hid hL
      have H2 := Lib.hid hcls
      have H3 := Lib.hid hcc
      clear hL hcls hbt hcc hb
      gi_wp2_with fail
      refine ⟨trivial, (callsIn_wide.2 (class_calls (bt s k) _ hbr.1 (by omega))).mono ?_⟩
      rintro e w2 ⟨rfl, hb2⟩
      rw [H2.out, H3.out]
      have hB2 := boxed_below hB hb2
      have hc2 := hB2.cell
      gi_wp2_with fail
      have hJ2 : J pre w2 := hJ _ _ _ none hJs (grown_of_below hb2 none) (by simp)
      clear hb2 hJs hB hcx
      gi_loopw [4] (fun v wq => ∃ q : Nat, k + 1 ≤ q ∧ q ≤ s.size ∧ v = .int .i64 q ∧ runTo s c s.size (k + 1) = runTo s c s.size q ∧ Boxed wq Bs 9 (.string s) ∧ J pre wq) (fun v _ => s.size - (intOf v).toNat)
      case atStart => exact ⟨k + 1, Nat.le_refl _, by omega, by go_num, rfl, hB2, hJ2⟩
      case round =>
        obtain ⟨q, hq1, hq2, rfl, hrt, hBq, hJq⟩ := hrel
        have hcq := hBq.cell
        have HRT := Lib.hid hrt
        clear hrt
        have hkq : k ≤ q := by omega
        have hkq2 : k < q := by omega
        by_cases hltq : q < s.size
        · have hbq := bt_range s q
          have hclq : classB (bt s q) = clsAt s q := classB_eq _ hbq.1 (by omega)
          have hgq : ((s[q].toNat : Nat) : Int) = bt s q := by simp [bt, hltq]
          obtain ⟨cq, hcq2⟩ : ∃ c, clsAt s q = c := ⟨_, rfl⟩
          have G2 := Lib.hid hclq
          have G3 := Lib.hid hcq2
          clear hclq hcq2
          gi_wp2_with fail
          refine ⟨trivial, (callsIn_wide.2 (class_calls (bt s q) _ hbq.1 (by omega))).mono ?_⟩
          rintro e w4 ⟨rfl, hb4⟩
          rw [G2.out, G3.out]
          have hB4 := boxed_below hBq hb4
          have hc4 := hB4.cell
          have hJ4 : J pre w4 := hJ _ _ _ none hJq (grown_of_below hb4 none) (by simp)
          clear hb4 hJq hBq hcq
          by_cases hceq : cq = c
          · have hce : (cq == c) = true := beq_iff_eq.2 hceq
            have HCE := Lib.hid hceq
            clear hceq
            gi_wp2
            go_roundw
            case rel => exact ⟨q + 1, by omega, by omega, by go_num, by rw [HRT.out]; exact runTo_step s c q ⟨hltq, by rw [G3.out, HCE.out]⟩, hB4, hJ4⟩
            case measure => simp [intOf]; omega
          · have hce : (cq == c) = false := beq_eq_false_iff_ne.2 hceq
            have HE : Hid (runTo s c s.size (k + 1) = q) := Lib.hid (by rw [HRT.out]; exact runTo_stop s c s.size q (fun h => hceq (by rw [← G3.out]; exact h.2)))
            obtain ⟨fn, tmps, assign, body, hy, hR⟩ := hY pre (mkRun k q hkq2 hq2) w4 hJ4 (by omega)
            dsimp only [encR, mkRun] at hy
            gi_wp2
            refine hR.mono ?_
            rintro e W3 (⟨rfl, hJ3, hk3⟩ | ⟨rfl, hJx3⟩)
            · gi_wp2
              go_roundw
              case rel =>
                obtain ⟨d', rfl⟩ : ∃ d', d = d' + 1 := ⟨d - 1, by omega⟩
                refine ⟨q, d', pre ++ [(mkRun k q hkq2 hq2)], hq2, rfl, by omega, ?_, by rw [List.length_append]; simp only [List.length_singleton]; omega, hJ3, boxed_keptB hB4 hk3⟩
                have hL := H1.out
                rw [runsL, if_pos hlt, H3.out, HE.out] at hL
                rw [hL, valsR_snoc]; simp [mkRun]
              case measure => simp [intOf]; omega
            · gi_wp2
              refine bodyPost_ret (results_none rfl _ _ _) rfl ?_
              refine ⟨⟨_, rfl⟩, .inr ⟨_, ?_, hJx3⟩⟩
              obtain ⟨d', rfl⟩ : ∃ d', d = d' + 1 := ⟨d - 1, by omega⟩
              have hL := H1.out
              rw [runsL, if_pos hlt, H3.out, HE.out] at hL
              exact ⟨runsL s d' q, by rw [hL, valsR_snoc]; simp [mkRun]⟩
        · have hlt3 : decide ((q : Int) < (s.size : Int)) = false := by simp; omega
          have HE : Hid (runTo s c s.size (k + 1) = q) := Lib.hid (by rw [HRT.out]; exact runTo_stop s c s.size q (by omega))
          obtain ⟨fn, tmps, assign, body, hy, hR⟩ := hY pre (mkRun k q hkq2 hq2) wr hJq (by omega)
          dsimp only [encR, mkRun] at hy
          gi_wp2_with fail
          refine ⟨trivial, ?_⟩
          gi_wp2
          refine hR.mono ?_
          rintro e W3 (⟨rfl, hJ3, hk3⟩ | ⟨rfl, hJx3⟩)
          · gi_wp2
            go_roundw
            case rel =>
              obtain ⟨d', rfl⟩ : ∃ d', d = d' + 1 := ⟨d - 1, by omega⟩
              refine ⟨q, d', pre ++ [(mkRun k q hkq2 hq2)], hq2, rfl, by omega, ?_, by rw [List.length_append]; simp only [List.length_singleton]; omega, hJ3, boxed_keptB hBq hk3⟩
              have hL := H1.out
              rw [runsL, if_pos hlt, H3.out, HE.out] at hL
              rw [hL, valsR_snoc]; simp [mkRun]
            case measure => simp [intOf]; omega
          · gi_wp2
            refine bodyPost_ret (results_none rfl _ _ _) rfl ?_
            refine ⟨⟨_, rfl⟩, .inr ⟨_, ?_, hJx3⟩⟩
            obtain ⟨d', rfl⟩ : ∃ d', d = d' + 1 := ⟨d - 1, by omega⟩
            have hL := H1.out
            rw [runsL, if_pos hlt, H3.out, HE.out] at hL
            exact ⟨runsL s d' q, by rw [hL, valsR_snoc]; simp [mkRun]⟩
    · gi_wp2
      go_end0
      have hL : runsL s s.size 0 = valsR pre := by
        rw [hL]
        cases d with
        | zero => simp [runsL]
        | succ d => simp [runsL, hlt]
      exact ⟨⟨_, rfl⟩, .inl ⟨pre, hL.symm, hJs⟩⟩
end Go.Proofs.Ythcmfjpheanphaa.Pr
