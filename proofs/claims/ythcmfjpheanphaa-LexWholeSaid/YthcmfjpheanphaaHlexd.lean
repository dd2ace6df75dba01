/- lex.all's iterator, walked by hand. -/
import Derived.Test.YthcmfjpheanphaaHlexc
import Derived.RangeFuncNested
import Derived.RangeFuncBound
import Derived.RangeFuncCalls
import Derived.RangeFuncLeaves
import Derived.Shelf.Abstract
import Derived.Shelf.RegionOpen
import Derived.OwnWalkIn
import Derived.TacticsInMore
import Derived.LoopNIn
import Derived.LoopIn
import Derived.RangeFuncBox
namespace Go.Proofs.Ythcmfjpheanphaa.Pr
set_option linter.unusedVariables false
set_option linter.unusedSimpArgs false
open Go.RowKit Go.Shelf Go.Proofs.YthcmfjpheanphaaW.PrintWords
attribute [local go_sem] Oper.semAt_some

theorem openN_pref (t x : ByteArray) (h : openN t = some x) : prefP (t.extract 1 t.size) x = true ∧ x ∈ namesL := by
  unfold openN at h
  exact ⟨List.find?_some (p := fun n => prefP (t.extract 1 t.size) n) h, List.mem_of_find?_eq_some h⟩
theorem prefP_size {t n : ByteArray} (h : prefP t n = true) : n.size ≤ t.size := by
  unfold prefP at h
  split at h
  · assumption
  · cases h
/-- what is read goes on, and stays within -/
theorem nextP_ok (t : ByteArray) (a : Int) (h1 : 1 ≤ t.size) (h : (nextP t a).e = 0) : 1 ≤ (nextP t a).size ∧ (nextP t a).size ≤ t.size := by
  unfold nextP at h ⊢
  split
  · rename_i h123
    rw [if_pos h123] at h
    unfold openP at h ⊢
    cases ho : openN t with
    | none => rw [ho] at h; simp at h
    | some x =>
      simp only
      have hp := openN_pref t x ho
      have := prefP_size hp.1
      rw [ByteArray.size_extract] at this
      split <;> omega
  · rename_i h123
    rw [if_neg h123] at h
    split
    · simp only; omega
    · rename_i h125
      rw [if_neg h125] at h
      split
      · rename_i h0
        rw [if_pos h0] at h
        simp at h
      · have := plainTo_size t t.size 0 (by omega)
        simp only; omega
/-- what is gone over, with its places -/
def allL (s : ByteArray) : Nat → Nat → List (Nat × Spot)
  | 0, _ => []
  | d + 1, at_ => if at_ < s.size then (at_, nextP (s.extract at_ s.size) at_) :: (if (nextP (s.extract at_ s.size) at_).e = 0 then allL s d (at_ + (nextP (s.extract at_ s.size) at_).size.toNat) else []) else []
def encA (x : Nat × Spot) : Array Value := #[.int .i64 x.1, encSpot x.2]
/-- one block, and all spots, stay as they lay -/
def KS (B : Nat) (W W' : World) : Prop := W'.heap[B]? = W.heap[B]? ∧ ∀ (g : Nat) (cs : Array Value), W.heap[g]? = some (.cells cs 87 (0, 0)) → W'.heap[g]? = some (.cells cs 87 (0, 0))
theorem KS_t {B : Nat} {X Y Z : World} (h : KS B X Y) (k : KS B Y Z) : KS B X Z := ⟨k.1.trans h.1, fun g cs hg => k.2 g cs (h.2 g cs hg)⟩
theorem KS_b {B : Nat} {w : World} (hB : B < w.heap.size) (W : World) (l : Nat) (o o' : Obj) (hl : w.heap.size ≤ l) (ho : W.heap[l]? = some o) (hc : o.isCells = false) (_ : o.isWalk = false) : KS B W (W.putObj l o') :=
  ⟨World.putObj_heap_other (by omega), fun g cs hg => by
    by_cases hgl : g = l
    · subst hgl
      rw [ho] at hg
      cases hg
      cases hc
    · rw [World.putObj_heap_other hgl]; exact hg⟩

set_option pp.maxSteps 3000 in
set_option maxRecDepth 100000 in
set_option maxHeartbeats 4000000 in
theorem all1_in (n : Nat) (hn : 1 ≤ n) (l Bs : Nat) (s : ByteArray) (hs : s.size ≤ 1000000) (J Jx : List (Nat × Spot) → World → Prop) (W : World) (hJ : AbidesFrom W.heap.size J)
    (hY : ∀ pre x W, J pre W → pre.length < s.size → YieldAt Fence.wide (n - 1) Try.prog l (encA x) W fun e W' =>
      (e = .returned (.bool true) ∧ J (pre ++ [x]) W' ∧ KS Bs W W') ∨ (e = .returned (.bool false) ∧ Jx (pre ++ [x]) W'))
    (hb : Boxed W Bs 9 (.string s)) (h0 : J [] W) :
    CallsIn Fence.wide n Try.prog 129 #[.func (.yield l) #[] #[], .pointer (some ⟨Bs, 0, none⟩)] W fun e W' => (∃ v, e = .returned v) ∧
      ((∃ ys, ys = allL s s.size 0 ∧ J ys W') ∨ (∃ pre, pre <+: allL s s.size 0 ∧ Jx pre W')) := by
  refine callsIn_of_wp Try.func129 rfl trivial ?_ rfl
  simp only [Try.ntmps129, List.size_toArray, List.length_cons, List.length_nil, Nat.reduceAdd, Nat.reduceSub, Array.replicate_succ, Array.replicate_zero, List.push_toArray, List.append_toArray, List.nil_append, List.cons_append]
  gi_wp2
  gi_loopw [3] (fun i wr => ∃ (k d : Nat) (pre : List (Nat × Spot)), k ≤ s.size ∧ i = .int .i64 k ∧ s.size ≤ d + k ∧ allL s s.size 0 = pre ++ allL s d k ∧ pre.length ≤ k ∧ J pre wr ∧ Boxed wr Bs 9 (.string s))
    (fun i _ => s.size - (intOf i).toNat)
  case atStart => exact ⟨0, s.size, [], Nat.zero_le _, rfl, by omega, rfl, Nat.le_refl _, h0, hb⟩
  case round =>
    obtain ⟨k, d, pre, hk, rfl, hd, hL, hpl, hJs, hB⟩ := hrel
    have hcx := hB.cell
    by_cases hlt : k < s.size
    · have hl2 : (k : Int) < (s.size : Int) := by omega
      obtain ⟨d, rfl⟩ : ∃ d', d = d' + 1 := ⟨d - 1, by omega⟩
      have hsl := fun W => Go.Det.sl_strl (P := Try.prog) Try.underlying9 s k (by omega) W
      have htz : (s.extract k s.size).size = s.size - k := by rw [ByteArray.size_extract]; omega
      have hnx := fun w => next_calls (s.extract k s.size) k (by omega) (by omega) w
      have hok := nextP_ok (s.extract k s.size) k (by omega)
      have hLs : allL s (d + 1) k = (k, nextP (s.extract k s.size) k) :: (if (nextP (s.extract k s.size) k).e = 0 then allL s d (k + (nextP (s.extract k s.size) k).size.toNat) else []) := by simp only [allL]; rw [if_pos hlt]
      rw [hLs] at hL
      clear hLs
      rw [htz] at hok
      generalize s.extract k s.size = t at *
      generalize nextP t k = x at *
      obtain ⟨⟨f0, f1, f2, f3⟩, sz, er⟩ := x
      have HL := Lib.hid hL
      have HN := Lib.hid hnx
      have HO := Lib.hid hok
      clear hL hnx hok hb htz
      gi_wp2_with fail
      refine ⟨trivial, (callsIn_wide.2 (HN.out _)).mono ?_⟩
      rintro e w2 ⟨rfl, hb2⟩
      unfold encSpot
      have hB2 := boxed_below hB hb2
      have hJ2 : J pre w2 := hJ _ _ _ none hJs (grown_of_below hb2 none) (by simp)
      have hJ3 : J pre (w2.alloc (.cells #[.int .i64 f0, .int .u8 f1, .string f2, .int .i64 f3, .int .i64 sz, .int .i64 er] 87)) := hJ _ _ _ none hJ2 (World.grownBy_alloc _ _ none) (by simp)
      have hB3 := hB2.alloc (.cells #[.int .i64 f0, .int .u8 f1, .string f2, .int .i64 f3, .int .i64 sz, .int .i64 er] 87)
      have hS3 := blk_new w2 (.cells #[.int .i64 f0, .int .u8 f1, .string f2, .int .i64 f3, .int .i64 sz, .int .i64 er] 87)
      clear hb2 hJs hB hcx
      obtain ⟨fn, tmps, assign, body, hy, hR⟩ := hY pre (k, ⟨⟨f0, f1, f2, f3⟩, sz, er⟩) _ hJ3 (by omega)
      dsimp only [encA, encSpot] at hy
      gi_wp2_with fail
      refine hR.mono ?_
      rintro e W3 (⟨rfl, hJ4, hk3⟩ | ⟨rfl, hJx4⟩)
      · have hblk := hk3.2 _ _ hS3
        have hsz := blk_cell hblk 4
        have hse := blk_cell hblk 5
        simp only [List.getElem?_toArray, List.getElem?_cons_succ, List.getElem?_cons_zero] at hsz hse
        have hB4 := boxed_keptB hB3 hk3.1
        by_cases her : er = 0
        · have hoo := HO.out her
          subst her
          obtain ⟨z, rfl⟩ : ∃ z : Nat, sz = z := ⟨sz.toNat, by omega⟩
          clear hblk HO hB2 hB3 hk3 hJ2 hJ3 hS3
          gi_wp2
          go_roundw
          case rel =>
            refine ⟨k + z, d, pre ++ [(k, ⟨⟨f0, f1, f2, f3⟩, z, 0⟩)], by omega, by go_num, by omega, ?_, by rw [List.length_append]; simp only [List.length_singleton]; omega, hJ4, hB4⟩
            rw [HL.out]; simp
          case measure => simp [intOf]; omega
        · have hb1 : (er == 0) = false := beq_eq_false_iff_ne.2 her
          have hb2 : (er != 0) = true := bne_iff_ne.2 her
          have hend : Hid (allL s s.size 0 = pre ++ [(k, ⟨⟨f0, f1, f2, f3⟩, sz, er⟩)]) := Lib.hid (by rw [HL.out]; simp [her])
          clear hblk HO hB2 hB3 hk3 hJ2 hJ3 hS3 her
          gi_wp2
          refine bodyPost_ret (results_none rfl _ _ _) rfl ?_
          exact ⟨⟨_, rfl⟩, .inl ⟨_, hend.out.symm, hJ4⟩⟩
      · clear HO hB2 hB3 hJ2 hJ3
        gi_wp2
        refine bodyPost_ret (results_none rfl _ _ _) rfl ?_
        exact ⟨⟨_, rfl⟩, .inr ⟨_, ⟨_, by rw [HL.out, List.append_assoc]; rfl⟩, hJx4⟩⟩
    · gi_wp2
      go_end0
      have hL2 : allL s s.size 0 = pre := by
        rw [hL]
        cases d with
        | zero => simp [allL]
        | succ d => simp [allL, hlt]
      exact ⟨⟨_, rfl⟩, .inl ⟨pre, hL2.symm, hJs⟩⟩
theorem all_stops (n : Nat) (hn : 1 ≤ n) (Bs : Nat) (s : ByteArray) (hs : s.size ≤ 1000000) (w : World) (hb : Boxed w Bs 9 (.string s)) :
    SeqStopsK Fence.wide n Try.prog 129 #[.pointer (some ⟨Bs, 0, none⟩)] encA (KS Bs) (fun ys => ys = allL s s.size 0) (fun pre => pre <+: allL s s.size 0) s.size w := fun l J Jx W hW hJ _ hY h0 =>
  all1_in n hn l Bs s hs J Jx W hJ hY (boxed_below hb hW) h0
set_option maxHeartbeats 400000 in
theorem all_in (s : ByteArray) (n : Nat) (w : World) :
    CallsIn Fence.wide n Try.prog 82 #[.string s] w fun e w' => e = .returned (.func (.func 129) #[] #[.pointer (some ⟨w.heap.size, 0, none⟩)]) ∧ w' = w.alloc (.cells #[.string s] 9) := by
  refine callsIn_of_wp Try.func82 rfl trivial ?_ rfl
  simp only [Try.ntmps82, List.size_toArray, List.length_cons, List.length_nil, Nat.reduceAdd, Nat.reduceSub, Array.replicate_succ, Array.replicate_zero, List.push_toArray, List.append_toArray, List.nil_append, List.cons_append]
  gi_wp2
  go_ret
  exact ⟨rfl, rfl⟩
end Go.Proofs.Ythcmfjpheanphaa.Pr
