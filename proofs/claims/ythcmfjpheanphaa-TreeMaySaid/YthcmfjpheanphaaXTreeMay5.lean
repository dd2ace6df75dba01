/- Texts of this seat, one behind the other. -/
import Derived.RangeFuncNested
import Derived.RangeFuncBound
import Derived.RangeFuncCalls
import Derived.RangeFuncLeaves
import Derived.Shelf.Abstract
import Derived.Shelf.RegionOpen
import Derived.OwnWalkIn
import Derived.TacticsInMore
import Derived.LoopNIn
import Derived.LoopIn
import Derived.RangeFuncBox
import Derived.Maps.AppendAt
import Derived.Laws.EntriesVeiled
import Derived.Lib.Hide
import Derived.WalkKit
import Derived.Outline
import Derived.Lib.OthersKept
import Derived.Lib.DecodeN
import Derived.Deep.LoopGhost
import Derived.Test.YthcmfjpheanphaaXTreeMay1
import Derived.Test.YthcmfjpheanphaaXTreeMay2
import Derived.Test.YthcmfjpheanphaaXTreeMay3
import Derived.Test.YthcmfjpheanphaaXTreeMay4
set_option linter.unusedVariables false
set_option linter.unusedSimpArgs false
namespace Go.Proofs.Ythcmfjpheanphaa.Pr
open Go.RowKit Go.Proofs.YthcmfjpheanphaaW.PrintWords
def plainTo (t : ByteArray) : Nat → Nat → Nat
 | 0, q => q
 | d + 1, q => if q < t.size ∧ plainP (bt t (q : Int)) = true then plainTo t d (q + 1) else q
theorem plainTo_stop (t : ByteArray) : ∀ d q, ¬ (q < t.size ∧ plainP (bt t (q : Int)) = true) → plainTo t d q = q
 | 0, _, _ => rfl
 | d + 1, q, h => by simp only [plainTo]; rw [if_neg h]
theorem plainTo_size (t : ByteArray) : ∀ d q, q ≤ t.size → plainTo t d q ≤ t.size
 | 0, q, h => h
 | d + 1, q, h => by
  simp only [plainTo]
  split
  ·rename_i hc; exact plainTo_size t d (q + 1) (by omega)
  ·exact h
def nextP (t : ByteArray) (at_ : Int) : Spot :=
 if bt t 0 = 123 then openP t at_
 else if bt t 0 = 125 then ⟨⟨3, 0, ⟨#[]⟩, at_⟩, 1, 0⟩
 else if plainTo t t.size 0 = 0 then ⟨⟨0, 0, ⟨#[]⟩, 0⟩, 0, 3⟩
 else ⟨⟨1, 0, t.extract 0 (plainTo t t.size 0), at_⟩, ((plainTo t t.size 0 : Nat) : Int), 0⟩
set_option pp.maxSteps 3000 in
set_option maxRecDepth 100000 in
set_option maxHeartbeats 4000000 in
theorem next_calls (t : ByteArray) (at_ : Int) (h1 : 1 ≤ t.size) (ht : t.size ≤ 1000000) (w : World) :
  Calls Try.prog 130 #[.string t, .int .i64 at_] w fun e w' => e = .returned (encSpot (nextP t at_)) ∧ Below w.heap.size w w' := by
 have hblk : ∀ W, Below (w.alloc (.cells #[.int .i64 0, .int .u8 0, .string ⟨#[]⟩, .int .i64 0, .int .i64 0, .int .i64 0] 87)).heap.size (w.alloc (.cells #[.int .i64 0, .int .u8 0, .string ⟨#[]⟩, .int .i64 0, .int .i64 0, .int .i64 0] 87)) W → W.heap[w.heap.size]? = some (.cells #[.int .i64 0, .int .u8 0, .string ⟨#[]⟩, .int .i64 0, .int .i64 0, .int .i64 0] 87 (0, 0)) := fun W hW =>
  (hW.block w.heap.size (by simp)).trans (blk_new w (.cells #[.int .i64 0, .int .u8 0, .string ⟨#[]⟩, .int .i64 0, .int .i64 0, .int .i64 0] 87))
 have hB0 : Below w.heap.size w (w.alloc (.cells #[.int .i64 0, .int .u8 0, .string ⟨#[]⟩, .int .i64 0, .int .i64 0, .int .i64 0] 87)) := (Below.refl _ w).alloc (Nat.le_refl _) _
 have HK := Lib.hid hblk
 clear hblk
 have hg0 : ((t[0].toNat : Nat) : Int) = bt t 0 := bt_at t 0 (by simp; omega)
 have hop := fun w => opening_calls t at_ h1 ht w
 obtain ⟨r, hr0⟩ : ∃ r, nextP t at_ = r := ⟨_, rfl⟩
 rw [hr0]
 unfold nextP at hr0
 by_cases h123 : bt t 0 = 123
 ·rw [if_pos h123] at hr0
  have hg1 : ((t[0].toNat : Nat) : Int) = 123 := hg0.trans h123
  have HO := Lib.hid hop
  clear hg0 h123 hop
  rw [hr0] at HO
  clear hr0
  go_enter Try.func130, Try.ntmps130
  go_wp2_with (first | (go_at_call 160; refine (HO.out _).mono ?_; rintro e w' ⟨rfl, hb⟩; unfold encSpot) | (refine wpList_store_row rfl 87 (.tmp 4) (.tmp 12) rfl w.heap.size _ rfl rfl 87 _ (HK.out _ hb) ?h1 ?h2 ?h3 ?h4))
  case h1 => kernel_rfl
  case h2 => rfl
  case h3 => simp [Value.oneCell']
  case h4 =>
   go_wp2
   refine bodyPost_ret (results_cell_row rfl _ _ w.heap.size 87 _ (0, 0) _ rfl (setRow_heap _ _ _ _ _ _ (HK.out _ hb)) Try.underlying87 rfl (by kernel_rfl)) rfl ⟨rfl, ?_⟩
   exact Go.Det.below_setRow (hB0.trans (hb.mono hB0.size)) (by omega) _
 ·rw [if_neg h123] at hr0
  clear hop
  by_cases h125 : bt t 0 = 125
  ·rw [if_pos h125] at hr0
   subst hr0
   have hg1 : ((t[0].toNat : Nat) : Int) = 125 := hg0.trans h125
   clear hg0 h123 h125
   go_enter Try.func130, Try.ntmps130
   go_wp2_with (refine wpList_store_row rfl 87 (.tmp 4) (.tmp 19) rfl w.heap.size _ rfl rfl 87 _ (HK.out _ (Below.refl _ _)) ?h1 ?h2 ?h3 ?h4)
   case h1 => kernel_rfl
   case h2 => rfl
   case h3 => simp [Value.oneCell']
   case h4 =>
    go_wp2
    refine bodyPost_ret (results_cell_row rfl _ _ w.heap.size 87 _ (0, 0) _ rfl (setRow_heap _ _ _ _ _ _ (HK.out _ (Below.refl _ _))) Try.underlying87 rfl (by kernel_rfl)) rfl ⟨rfl, ?_⟩
    exact Go.Det.below_setRow hB0 (by omega) _
  ·rw [if_neg h125] at hr0
   have HRs := Lib.hid hr0
   clear hr0
   have hb1 : (bt t 0 == 123) = false := beq_eq_false_iff_ne.2 h123
   have hb2 : (bt t 0 == 125) = false := beq_eq_false_iff_ne.2 h125
   generalize bt t 0 = y0 at *
   clear h123 h125
   go_enter Try.func130, Try.ntmps130
   go_wp2
   go_loopw [5] (fun v wr => ∃ (k d : Nat), k ≤ t.size ∧ v = .int .i64 k ∧ Hid (t.size ≤ d + k ∧ plainTo t t.size 0 = plainTo t d k) ∧ Below (w.alloc (.cells #[.int .i64 0, .int .u8 0, .string ⟨#[]⟩, .int .i64 0, .int .i64 0, .int .i64 0] 87)).heap.size (w.alloc (.cells #[.int .i64 0, .int .u8 0, .string ⟨#[]⟩, .int .i64 0, .int .i64 0, .int .i64 0] 87)) wr) (fun v _ => t.size - (intOf v).toNat)
   case atStart => exact ⟨0, t.size, by omega, rfl, Lib.hid ⟨by omega, rfl⟩, Below.refl _ _⟩
   case round =>
    obtain ⟨k, d, hk, rfl, H, hB⟩ := hrel
    have Hstop := Lib.hid (plainTo_stop t d k)
    by_cases hlt : k < t.size
    ·have hl2 : (k : Int) < (t.size : Int) := by omega
     obtain ⟨d, rfl⟩ : ∃ m, d = m + 1 := ⟨d - 1, by have := H.out.1; omega⟩
     have hr := bt_range t k
     have hgk : ((t[k].toNat : Nat) : Int) = bt t k := bt_at t k (by simpa using hlt)
     have hp := fun W => plain_calls (bt t k) hr.1 hr.2 W
     have Hstep : Hid (plainP (bt t (k : Int)) = true → plainTo t (d + 1) k = plainTo t d (k + 1)) := Lib.hid (fun h => by simp only [plainTo]; rw [if_pos ⟨hlt, h⟩])
     generalize bt t (k : Int) = y at *
     cases hpy : plainP y with
     | true =>
      rw [hpy] at hp
      have HP := Lib.hid hp
      have HN : Hid (t.size ≤ d + (k + 1) ∧ plainTo t t.size 0 = plainTo t d (k + 1)) := Lib.hid ⟨by have := H.out.1; omega, H.out.2.trans (Hstep.out hpy)⟩
      clear hp hpy Hstep Hstop H
      go_wp2_with (go_at_call 161; refine (HP.out _).mono ?_; rintro e w' ⟨rfl, hb⟩)
      go_roundw
      case rel => exact ⟨k + 1, d, by omega, by go_num, HN, hB.trans (hb.mono hB.size)⟩
      case measure => simp [intOf]; omega
     | false =>
      rw [hpy] at hp
      have HP := Lib.hid hp
      have HT : Hid (plainTo t t.size 0 = k) := Lib.hid (H.out.2.trans (Hstop.out (fun h => by rw [hpy] at h; exact absurd h.2 (by simp))))
      clear hp hpy Hstep Hstop H
      by_cases hk0 : k = 0
      ·subst hk0
       obtain rfl : y = y0 := hgk.symm.trans hg0
       simp only [Int.natCast_zero] at *
       go_wp2_with (first | (go_at_call 161; refine (HP.out _).mono ?_; rintro e w' ⟨rfl, hb⟩; have hb2 := hB.trans (hb.mono hB.size)) | (refine wpList_store_row rfl 87 (.tmp 4) (.tmp 34) rfl w.heap.size _ rfl rfl 87 _ (HK.out _ hb2) ?h1 ?h2 ?h3 ?h4))
       case h1 => kernel_rfl
       case h2 => rfl
       case h3 => simp [Value.oneCell']
       case h4 =>
        go_wp2
        refine bodyPost_ret (results_cell_row rfl _ _ w.heap.size 87 _ (0, 0) _ rfl (setRow_heap _ _ _ _ _ _ (HK.out _ hb2)) Try.underlying87 rfl (by kernel_rfl)) rfl ⟨?_, ?_⟩
        ·rw [← HRs.out, if_pos HT.out]; rfl
        ·exact Go.Det.below_setRow (hB0.trans (hb2.mono hB0.size)) (by omega) _
      ·have hk1 : ¬ (k : Int) = 0 := by omega
       have hk2 : ((k : Int) == 0) = false := beq_eq_false_iff_ne.2 hk1
       have hsl := fun W => Go.Det.sl_strh (P := Try.prog) Try.underlying9 t k (by omega) W
       clear hk1
       go_wp2_with (first | (go_at_call 161; refine (HP.out _).mono ?_; rintro e w' ⟨rfl, hb⟩; have hb2 := hB.trans (hb.mono hB.size)) | (refine wpList_store_row rfl 87 (.tmp 4) (.tmp 41) rfl w.heap.size _ rfl rfl 87 _ (HK.out _ hb2) ?h1 ?h2 ?h3 ?h4))
       case h1 => kernel_rfl
       case h2 => rfl
       case h3 => simp [Value.oneCell']
       case h4 =>
        go_wp2
        refine bodyPost_ret (results_cell_row rfl _ _ w.heap.size 87 _ (0, 0) _ rfl (setRow_heap _ _ _ _ _ _ (HK.out _ hb2)) Try.underlying87 rfl (by kernel_rfl)) rfl ⟨?_, ?_⟩
        ·rw [← HRs.out, if_neg (by rw [HT.out]; exact hk0), HT.out]; rfl
        ·exact Go.Det.below_setRow (hB0.trans (hb2.mono hB0.size)) (by omega) _
    ·have hl2 : ¬ (k : Int) < (t.size : Int) := by omega
     have HT : Hid (plainTo t t.size 0 = k) := Lib.hid (H.out.2.trans (Hstop.out (fun h => hlt h.1)))
     have hk0 : ¬ k = 0 := by omega
     have hk1 : ¬ (k : Int) = 0 := by omega
     have hk2 : ((k : Int) == 0) = false := beq_eq_false_iff_ne.2 hk1
     have hsl := fun W => Go.Det.sl_strh (P := Try.prog) Try.underlying9 t k (by omega) W
     clear hk1 Hstop H
     go_wp2_with (first | (refine wpList_store_row rfl 87 (.tmp 4) (.tmp 41) rfl w.heap.size _ rfl rfl 87 _ (HK.out _ hB) (by kernel_rfl) rfl (by simp [Value.oneCell']) ?h4))
     case h4 =>
      go_wp2
      refine bodyPost_ret (results_cell_row rfl _ _ w.heap.size 87 _ (0, 0) _ rfl (setRow_heap _ _ _ _ _ _ (HK.out _ hB)) Try.underlying87 rfl (by kernel_rfl)) rfl ⟨?_, ?_⟩
      ·rw [← HRs.out, if_neg (by rw [HT.out]; exact hk0), HT.out]; rfl
      ·exact Go.Det.below_setRow (hB0.trans (hB.mono hB0.size)) (by omega) _
end Go.Proofs.Ythcmfjpheanphaa.Pr
namespace Go.Proofs.Ythcmfjpheanphaa.Pr
open Go.RowKit Go.Shelf Go.Proofs.YthcmfjpheanphaaW.PrintWords
attribute [local go_sem] Oper.semAt_some
theorem openN_pref (t x : ByteArray) (h : openN t = some x) : prefP (t.extract 1 t.size) x = true ∧ x ∈ namesL := by
 unfold openN at h
 exact ⟨List.find?_some (p := fun n => prefP (t.extract 1 t.size) n) h, List.mem_of_find?_eq_some h⟩
theorem prefP_size {t n : ByteArray} (h : prefP t n = true) : n.size ≤ t.size := by
 unfold prefP at h
 split at h
 ·assumption
 ·cases h
theorem nextP_ok (t : ByteArray) (a : Int) (h1 : 1 ≤ t.size) (h : (nextP t a).e = 0) : 1 ≤ (nextP t a).size ∧ (nextP t a).size ≤ t.size := by
 unfold nextP at h ⊢
 split
 ·rename_i h123
  rw [if_pos h123] at h
  unfold openP at h ⊢
  cases ho : openN t with
  | none => rw [ho] at h; simp at h
  | some x =>
   simp only
   have hp := openN_pref t x ho
   have := prefP_size hp.1
   rw [ByteArray.size_extract] at this
   split <;> omega
 ·rename_i h123
  rw [if_neg h123] at h
  split
  ·simp only; omega
  ·rename_i h125
   rw [if_neg h125] at h
   split
   ·rename_i h0
    rw [if_pos h0] at h
    simp at h
   ·have := plainTo_size t t.size 0 (by omega)
    simp only; omega
def allL (s : ByteArray) : Nat → Nat → List (Nat × Spot)
 | 0, _ => []
 | d + 1, at_ => if at_ < s.size then (at_, nextP (s.extract at_ s.size) at_) :: (if (nextP (s.extract at_ s.size) at_).e = 0 then allL s d (at_ + (nextP (s.extract at_ s.size) at_).size.toNat) else []) else []
def encA (x : Nat × Spot) : Array Value := #[.int .i64 x.1, encSpot x.2]
def KS (B : Nat) (W W' : World) : Prop := W'.heap[B]? = W.heap[B]? ∧ ∀ (g : Nat) (cs : Array Value), W.heap[g]? = some (.cells cs 87 (0, 0)) → W'.heap[g]? = some (.cells cs 87 (0, 0))
theorem KS_t {B : Nat} {X Y Z : World} (h : KS B X Y) (k : KS B Y Z) : KS B X Z := ⟨k.1.trans h.1, fun g cs hg => k.2 g cs (h.2 g cs hg)⟩
theorem KS_b {B : Nat} {w : World} (hB : B < w.heap.size) (W : World) (l : Nat) (o o' : Obj) (hl : w.heap.size ≤ l) (ho : W.heap[l]? = some o) (hc : o.isCells = false) (_ : o.isWalk = false) : KS B W (W.putObj l o') :=
 ⟨World.putObj_heap_other (by omega), fun g cs hg => by
  by_cases hgl : g = l
  ·subst hgl
   rw [ho] at hg
   cases hg
   cases hc
  ·rw [World.putObj_heap_other hgl]; exact hg⟩
set_option pp.maxSteps 3000 in
set_option maxRecDepth 100000 in
set_option maxHeartbeats 4000000 in
theorem all1_in (n : Nat) (hn : 1 ≤ n) (l Bs : Nat) (s : ByteArray) (hs : s.size ≤ 1000000) (J Jx : List (Nat × Spot) → World → Prop) (W : World) (hJ : AbidesFrom W.heap.size J)
  (hY : ∀ pre x W, J pre W → pre.length < s.size → YieldAt Fence.wide (n - 1) Try.prog l (encA x) W fun e W' =>
   (e = .returned (.bool true) ∧ J (pre ++ [x]) W' ∧ KS Bs W W') ∨ (e = .returned (.bool false) ∧ Jx (pre ++ [x]) W'))
  (hb : Boxed W Bs 9 (.string s)) (h0 : J [] W) :
  CallsIn Fence.wide n Try.prog 129 #[.func (.yield l) #[] #[], .pointer (some ⟨Bs, 0, none⟩)] W fun e W' => (∃ v, e = .returned v) ∧
   ((∃ ys, ys = allL s s.size 0 ∧ J ys W') ∨ (∃ pre, pre <+: allL s s.size 0 ∧ Jx pre W')) := by
 refine callsIn_of_wp Try.func129 rfl trivial ?_ rfl
 simp only [Try.ntmps129, List.size_toArray, List.length_cons, List.length_nil, Nat.reduceAdd, Nat.reduceSub, Array.replicate_succ, Array.replicate_zero, List.push_toArray, List.append_toArray, List.nil_append, List.cons_append]
 gi_wp2
 gi_loopw [3] (fun i wr => ∃ (k d : Nat) (pre : List (Nat × Spot)), k ≤ s.size ∧ i = .int .i64 k ∧ s.size ≤ d + k ∧ allL s s.size 0 = pre ++ allL s d k ∧ pre.length ≤ k ∧ J pre wr ∧ Boxed wr Bs 9 (.string s))
  (fun i _ => s.size - (intOf i).toNat)
 case atStart => exact ⟨0, s.size, [], Nat.zero_le _, rfl, by omega, rfl, Nat.le_refl _, h0, hb⟩
 case round =>
  obtain ⟨k, d, pre, hk, rfl, hd, hL, hpl, hJs, hB⟩ := hrel
  have hcx := hB.cell
  by_cases hlt : k < s.size
  ·have hl2 : (k : Int) < (s.size : Int) := by omega
   obtain ⟨d, rfl⟩ : ∃ d', d = d' + 1 := ⟨d - 1, by omega⟩
   have hsl := fun W => Go.Det.sl_strl (P := Try.prog) Try.underlying9 s k (by omega) W
   have htz : (s.extract k s.size).size = s.size - k := by rw [ByteArray.size_extract]; omega
   have hnx := fun w => next_calls (s.extract k s.size) k (by omega) (by omega) w
   have hok := nextP_ok (s.extract k s.size) k (by omega)
   have hLs : allL s (d + 1) k = (k, nextP (s.extract k s.size) k) :: (if (nextP (s.extract k s.size) k).e = 0 then allL s d (k + (nextP (s.extract k s.size) k).size.toNat) else []) := by simp only [allL]; rw [if_pos hlt]
   rw [hLs] at hL
   clear hLs
   rw [htz] at hok
   generalize s.extract k s.size = t at *
   generalize nextP t k = x at *
   obtain ⟨⟨f0, f1, f2, f3⟩, sz, er⟩ := x
   have HL := Lib.hid hL
   have HN := Lib.hid hnx
   have HO := Lib.hid hok
   clear hL hnx hok hb htz
   gi_wp2_with fail
   refine ⟨trivial, (callsIn_wide.2 (HN.out _)).mono ?_⟩
   rintro e w2 ⟨rfl, hb2⟩
   unfold encSpot
   have hB2 := boxed_below hB hb2
   have hJ2 : J pre w2 := hJ _ _ _ none hJs (grown_of_below hb2 none) (by simp)
   have hJ3 : J pre (w2.alloc (.cells #[.int .i64 f0, .int .u8 f1, .string f2, .int .i64 f3, .int .i64 sz, .int .i64 er] 87)) := hJ _ _ _ none hJ2 (World.grownBy_alloc _ _ none) (by simp)
   have hB3 := hB2.alloc (.cells #[.int .i64 f0, .int .u8 f1, .string f2, .int .i64 f3, .int .i64 sz, .int .i64 er] 87)
   have hS3 := blk_new w2 (.cells #[.int .i64 f0, .int .u8 f1, .string f2, .int .i64 f3, .int .i64 sz, .int .i64 er] 87)
   clear hb2 hJs hB hcx
   obtain ⟨fn, tmps, assign, body, hy, hR⟩ := hY pre (k, ⟨⟨f0, f1, f2, f3⟩, sz, er⟩) _ hJ3 (by omega)
   dsimp only [encA, encSpot] at hy
   gi_wp2_with fail
   refine hR.mono ?_
   rintro e W3 (⟨rfl, hJ4, hk3⟩ | ⟨rfl, hJx4⟩)
   ·have hblk := hk3.2 _ _ hS3
    have hsz := blk_cell hblk 4
    have hse := blk_cell hblk 5
    simp only [List.getElem?_toArray, List.getElem?_cons_succ, List.getElem?_cons_zero] at hsz hse
    have hB4 := boxed_keptB hB3 hk3.1
    by_cases her : er = 0
    ·have hoo := HO.out her
     subst her
     obtain ⟨z, rfl⟩ : ∃ z : Nat, sz = z := ⟨sz.toNat, by omega⟩
     clear hblk HO hB2 hB3 hk3 hJ2 hJ3 hS3
     gi_wp2
     go_roundw
     case rel =>
      refine ⟨k + z, d, pre ++ [(k, ⟨⟨f0, f1, f2, f3⟩, z, 0⟩)], by omega, by go_num, by omega, ?_, by rw [List.length_append]; simp only [List.length_singleton]; omega, hJ4, hB4⟩
      rw [HL.out]; simp
     case measure => simp [intOf]; omega
    ·have hb1 : (er == 0) = false := beq_eq_false_iff_ne.2 her
     have hb2 : (er != 0) = true := bne_iff_ne.2 her
     have hend : Hid (allL s s.size 0 = pre ++ [(k, ⟨⟨f0, f1, f2, f3⟩, sz, er⟩)]) := Lib.hid (by rw [HL.out]; simp [her])
     clear hblk HO hB2 hB3 hk3 hJ2 hJ3 hS3 her
     gi_wp2
     refine bodyPost_ret (results_none rfl _ _ _) rfl ?_
     exact ⟨⟨_, rfl⟩, .inl ⟨_, hend.out.symm, hJ4⟩⟩
   ·clear HO hB2 hB3 hJ2 hJ3
    gi_wp2
    refine bodyPost_ret (results_none rfl _ _ _) rfl ?_
    exact ⟨⟨_, rfl⟩, .inr ⟨_, ⟨_, by rw [HL.out, List.append_assoc]; rfl⟩, hJx4⟩⟩
  ·gi_wp2
   go_end0
   have hL2 : allL s s.size 0 = pre := by
    rw [hL]
    cases d with
    | zero => simp [allL]
    | succ d => simp [allL, hlt]
   exact ⟨⟨_, rfl⟩, .inl ⟨pre, hL2.symm, hJs⟩⟩
theorem all_stops (n : Nat) (hn : 1 ≤ n) (Bs : Nat) (s : ByteArray) (hs : s.size ≤ 1000000) (w : World) (hb : Boxed w Bs 9 (.string s)) :
  SeqStopsK Fence.wide n Try.prog 129 #[.pointer (some ⟨Bs, 0, none⟩)] encA (KS Bs) (fun ys => ys = allL s s.size 0) (fun pre => pre <+: allL s s.size 0) s.size w := fun l J Jx W hW hJ _ hY h0 =>
 all1_in n hn l Bs s hs J Jx W hJ hY (boxed_below hb hW) h0
set_option maxHeartbeats 400000 in
theorem all_in (s : ByteArray) (n : Nat) (w : World) :
  CallsIn Fence.wide n Try.prog 82 #[.string s] w fun e w' => e = .returned (.func (.func 129) #[] #[.pointer (some ⟨w.heap.size, 0, none⟩)]) ∧ w' = w.alloc (.cells #[.string s] 9) := by
 refine callsIn_of_wp Try.func82 rfl trivial ?_ rfl
 simp only [Try.ntmps82, List.size_toArray, List.length_cons, List.length_nil, Nat.reduceAdd, Nat.reduceSub, Array.replicate_succ, Array.replicate_zero, List.push_toArray, List.append_toArray, List.nil_append, List.cons_append]
 gi_wp2
 go_ret
 exact ⟨rfl, rfl⟩
def flat47 (xs : List S47) : List Value := xs.flatMap fun x => [.int .i64 x.f0, .int .u8 x.f1, .string x.f2, .int .i64 x.f3]
theorem flat47_length (xs : List S47) : (flat47 xs).length = xs.length * 4 := by
 induction xs with
 | nil => rfl
 | cons x xs ih => simp [flat47] at ih ⊢; omega
theorem flat47_snoc (xs : List S47) (x : S47) : flat47 (xs ++ [x]) = flat47 xs ++ [.int .i64 x.f0, .int .u8 x.f1, .string x.f2, .int .i64 x.f3] := by simp [flat47]
theorem flat47_at (xs : List S47) : ∀ (j : Nat) (p : S47), xs[j]? = some p → ((flat47 xs).drop (j * 4)).take 4 = [.int .i64 p.f0, .int .u8 p.f1, .string p.f2, .int .i64 p.f3] := by
 induction xs with
 | nil => intro j p h; simp at h
 | cons x xs ih =>
  intro j p h
  cases j with
  | zero => simp at h; subst h; simp [flat47]
  | succ j =>
   have := ih j p (by simpa using h)
   rw [Nat.succ_mul]
   simp only [flat47, List.flatMap_cons] at this ⊢
   rw [show ∀ l : List Value, (([.int .i64 x.f0, .int .u8 x.f1, .string x.f2, .int .i64 x.f3] : List Value) ++ l).drop (j * 4 + 4) = l.drop (j * 4) from fun l => rfl]
   exact this
theorem own_R47 {w : World} {base : Nat} {v : Value} {xs : List S47} (h : w.ownsRow base 47 4 v xs.length (flat47 xs)) (b' : Nat) (hb : b' ≤ base) : Kd.R k47 47 w b' (fun _ => True) v xs := by
 refine Kd.R_lower (base := base) ⟨fun _ _ => trivial, flat47 xs, h, flat47_length xs, fun j p hp => ?_⟩ hb
 have := flat47_at xs j p hp
 show k47.M _ _ _ _ (((flat47 xs).drop (j * 4)).take 4)
 rw [this]
 exact k47_mkM _ _ _ _
theorem info47h : (Try.prog.info? 47).map (fun i => (i.zero, i.size, i.bytes)) = some (some (.agg #[(.int .i64 0), (.int .u8 0), (.string ⟨#[]⟩), (.int .i64 0)]), 4, 40) := by kernel_rfl
def lexes (pre : List (Nat × Spot)) : List S47 := pre.map (·.2.l)
def lastAt (pre : List (Nat × Spot)) : Int := match pre.getLast? with | some x => x.1 | none => 0
def lastE (pre : List (Nat × Spot)) : Int := match pre.getLast? with | some x => x.2.e | none => 0
def lexP (s : ByteArray) : List S47 × Int × Int :=
 if 8192 < s.size then ([], 0, 4)
 else if lastE (allL s s.size 0) = 0 then (lexes (allL s s.size 0), 0, 0) else ([], lastAt (allL s s.size 0), lastE (allL s s.size 0))
theorem lastE_snoc (pre : List (Nat × Spot)) (x : Nat × Spot) : lastE (pre ++ [x]) = x.2.e := by simp [lastE]
theorem lastAt_snoc (pre : List (Nat × Spot)) (x : Nat × Spot) : lastAt (pre ++ [x]) = x.1 := by simp [lastAt]
theorem lexes_snoc (pre : List (Nat × Spot)) (x : Nat × Spot) : lexes (pre ++ [x]) = lexes pre ++ [x.2.l] := by simp [lexes]
theorem lexes_length (pre : List (Nat × Spot)) : (lexes pre).length = pre.length := by simp [lexes]
theorem allL_whole (s : ByteArray) : ∀ (d k : Nat) (pre : List (Nat × Spot)), pre <+: allL s d k → lastE pre ≠ 0 → pre = allL s d k
 | 0, k, pre, h, he => by
  simp only [allL] at h ⊢
  exact List.prefix_nil.1 h
 | d + 1, k, pre, h, he => by
  simp only [allL] at h ⊢
  split at h
  ·rename_i hk
   rw [if_pos hk]
   cases pre with
   | nil => simp [lastE] at he
   | cons y pre =>
    rw [List.cons_prefix_cons] at h
    obtain ⟨rfl, h⟩ := h
    cases pre with
    | nil =>
     have : (nextP (s.extract k s.size) k).e ≠ 0 := by simpa [lastE] using he
     rw [if_neg this]
    | cons z pre =>
     split at h
     ·rename_i h0
      rw [if_pos h0]
      congr 1
      exact allL_whole s d _ (z :: pre) h (by simpa [lastE] using he)
     ·simp at h
  ·have := List.prefix_nil.1 h
   subst this
   simp [lastE] at he
theorem boxed_if {W : World} {B : Nat} {t : TypeId} {v : Value} (h : Boxed W B t v) (B1 : Nat) (v1 : Value) : Boxed (W.setCell ⟨B1, 0, none⟩ v1) B t (if B1 = B then v1 else v) := by
 by_cases e : B1 = B
 ·subst e; rw [if_pos rfl]; exact h.set _
 ·rw [if_neg e]; exact h.other (fun h => e h.symm) _
theorem boxed3 {W : World} {B : Nat} {t : TypeId} {v v' : Value} (h : Boxed W B t v) (B1 B2 B3 : Nat) (v1 v2 v3 : Value) (e : (if B3 = B then v3 else if B2 = B then v2 else if B1 = B then v1 else v) = v') :
  Boxed (((W.setCell ⟨B1, 0, none⟩ v1).setCell ⟨B2, 0, none⟩ v2).setCell ⟨B3, 0, none⟩ v3).drew B t v' := by
 subst e
 exact boxed_drew (boxed_if (boxed_if (boxed_if h B1 v1) B2 v2) B3 v3)
theorem boxed3n {W : World} {B : Nat} {t : TypeId} {v v' : Value} (h : Boxed W B t v) (B1 B2 B3 : Nat) (v1 v2 v3 : Value) (e : (if B3 = B then v3 else if B2 = B then v2 else if B1 = B then v1 else v) = v') :
  Boxed (((W.setCell ⟨B1, 0, none⟩ v1).setCell ⟨B2, 0, none⟩ v2).setCell ⟨B3, 0, none⟩ v3) B t v' := by
 subst e
 exact boxed_if (boxed_if (boxed_if h B1 v1) B2 v2) B3 v3
def spotCells (x : Spot) : Array Value := #[.int .i64 x.l.f0, .int .u8 x.l.f1, .string x.l.f2, .int .i64 x.l.f3, .int .i64 x.size, .int .i64 x.e]
theorem blk_own {W W' : World} {row : Option Nat} {g B : Nat} {cs : Array Value} {t : TypeId} (h : W.heap[g]? = some (.cells cs t (0, 0))) (hg : W.grownBy W' row) (hr : ∀ r, row = some r → B ≤ r ∧ ∃ o : Obj, W.heap[r]? = some o ∧ o.isCells = false) : W'.heap[g]? = some (.cells cs t (0, 0)) :=
 (hg.block g (blk_lt h) (fun e => by
  obtain ⟨_, o, ho, hc⟩ := hr g e.symm
  rw [h] at ho
  cases ho
  cases hc)).trans h
set_option pp.maxSteps 1500 in
set_option maxRecDepth 100000 in
set_option maxHeartbeats 4000000 in
theorem lexOf_in (s : ByteArray) (hs : s.size ≤ 8192) (w : World) :
  CallsIn Fence.wide 3 Try.prog 45 #[.string s] w fun e W' => ∃ v l a b, e = .returned (.tuple #[v, .int .i64 a, .int .i64 b]) ∧ lexP s = (l, a, b) ∧ Kd.R k47 47 W' w.heap.size (fun _ => True) v l ∧ Below w.heap.size w W' := by
 obtain ⟨i0, hi, hz0, hz1, hz2⟩ := info_parts info47h
 refine callsIn_of_wp_marks Try.func45 rfl trivial ?_ rfl
 simp only [Try.ntmps45, List.size_toArray, List.length_cons, List.length_nil, Nat.reduceAdd, Nat.reduceSub, Array.replicate_succ, Array.replicate_zero, List.push_toArray, List.append_toArray, List.nil_append, List.cons_append]
 have hs2 : (s.size : Int) ≤ 8192 := by omega
 gi_wp2_with (refine ⟨trivial, ?_⟩; gi_at_call 82; refine (all_in s _ _).mono ?_; rintro e w' ⟨rfl, rfl⟩)
 have b0 := (((Boxed.new w 41 (.slice none 0 0)).alloc (.cells #[.int .i64 0] 3)).alloc (.cells #[.int .i64 0] 42)).alloc (.cells #[.string s] 9)
 have b1 := ((Boxed.new (w.alloc (.cells #[.slice none 0 0] 41)) 3 (.int .i64 0)).alloc (.cells #[.int .i64 0] 42)).alloc (.cells #[.string s] 9)
 have b2 := (Boxed.new ((w.alloc (.cells #[.slice none 0 0] 41)).alloc (.cells #[.int .i64 0] 3)) 42 (.int .i64 0)).alloc (.cells #[.string s] 9)
 have b3 := Boxed.new (((w.alloc (.cells #[.slice none 0 0] 41)).alloc (.cells #[.int .i64 0] 3)).alloc (.cells #[.int .i64 0] 42)) 9 (.string s)
 have hB0 : Below w.heap.size w ((((w.alloc (.cells #[.slice none 0 0] 41)).alloc (.cells #[.int .i64 0] 3)).alloc (.cells #[.int .i64 0] 42)).alloc (.cells #[.string s] 9)) :=
  ((((Below.refl _ w).alloc (Nat.le_refl _) _).alloc (by simp) _).alloc (by simp; omega) _).alloc (by simp; omega) _
 have hz : ((((w.alloc (.cells #[.slice none 0 0] 41)).alloc (.cells #[.int .i64 0] 3)).alloc (.cells #[.int .i64 0] 42)).alloc (.cells #[.string s] 9)).heap.size = w.heap.size + 4 := by simp
 simp only [World.size_alloc] at b0 b1 b2 b3
 obtain ⟨W0, hW0⟩ : ∃ W0, ((((w.alloc (.cells #[.slice none 0 0] 41)).alloc (.cells #[.int .i64 0] 3)).alloc (.cells #[.int .i64 0] 42)).alloc (.cells #[.string s] 9)) = W0 := ⟨_, rfl⟩
 rw [hW0] at b0 b1 b2 b3 hB0 hz ⊢
 clear hW0
 apply wpIn_rangeFunc_ownH rfl (by omega) (gf := 129) (lb := #[.pointer (some ⟨w.heap.size + 1 + 1 + 1, 0, none⟩)]) rfl trivial (enters_of Try.func129 (by kernel_rfl) rfl)
  (all_stops _ (by omega) (w.heap.size + 1 + 1 + 1) s (by omega) W0 b3) KS_t (KS_b (by omega)) (Below.refl _ _) (fun _ => rfl)
  (fun pre W => (∃ v, Boxed W w.heap.size 41 v ∧ W.ownsRow w.heap.size 47 4 v pre.length (flat47 (lexes pre)) ∧ True) ∧ (Boxed W (w.heap.size + 1) 3 (.int .i64 0) ∧ Boxed W (w.heap.size + 1 + 1) 42 (.int .i64 0) ∧ Boxed W (w.heap.size + 1 + 1 + 1) 9 (.string s)) ∧ Below w.heap.size w W ∧ lastE pre = 0)
  (fun c pre W => (c = .ret ∧ lastE pre ≠ 0) ∧ (Boxed W w.heap.size 41 (.slice none 0 0) ∧ Boxed W (w.heap.size + 1) 3 (.int .i64 (lastAt pre)) ∧ Boxed W (w.heap.size + 1 + 1) 42 (.int .i64 (lastE pre))) ∧ Below w.heap.size w W)
  (OwnFrom.and (Own.from (holdsRow_own w.heap.size w.heap.size 41 47 4 (fun pre => pre.length) (fun pre => flat47 (lexes pre)) (fun _ _ => True)) _) (OwnFrom.and (OwnFrom.and (Own.from (boxed_own' _ _ _) _) (OwnFrom.and (Own.from (boxed_own' _ _ _) _) (Own.from (boxed_own' _ _ _) _))) (OwnFrom.and (ownFrom_below (Nat.le_refl _) (by omega)) (ownFrom_pure _ _))))
  (fun c => OwnFrom.and (ownFrom_pure _ _) (OwnFrom.and (OwnFrom.and (Own.from (boxed_own' _ _ _) _) (OwnFrom.and (Own.from (boxed_own _ _ (fun pre => .int .i64 (lastAt pre))) _) (Own.from (boxed_own _ _ (fun pre => .int .i64 (lastE pre))) _))) (ownFrom_below (Nat.le_refl _) (by omega))))
  ⟨⟨_, b0, World.ownsRow_nil _ _ _ _, trivial⟩, ⟨b1, b2, b3⟩, hB0, rfl⟩
  (fun x a' W => ∃ Bx, w.heap.size + 4 ≤ Bx ∧ W.heap[Bx]? = some (.cells (spotCells x.2) 87 (0, 0)) ∧ a' = { tmps := #[.string s, undef, .pointer (some ⟨w.heap.size, 0, none⟩), .pointer (some ⟨w.heap.size + 1, 0, none⟩), .pointer (some ⟨w.heap.size + 1 + 1, 0, none⟩), .int .i64 x.1, .pointer (some ⟨Bx, 0, none⟩), .string s, .int .i64 s.size, .bool (decide (8192 < (s.size : Int))), .string s, .func (.func 129) #[] #[.pointer (some ⟨w.heap.size + 1 + 1 + 1, 0, none⟩)], .int .i64 x.1, encSpot x.2, undef, undef, undef, undef, undef, undef, undef, undef, undef, undef, undef, undef, undef, undef, undef, undef, undef, undef, undef, undef, undef, undef, undef], defers := [] })
  (fun x a' _ W W' row hs hg hr => by
   obtain ⟨Bx, g1, g2, g3⟩ := hs
   exact ⟨Bx, g1, blk_own g2 hg hr, g3⟩)
 case hassign =>
  rintro l pre ⟨k, ⟨⟨f0, f1, f2, f3⟩, sz, er⟩⟩ W K ⟨⟨v, hv, hrow, -⟩, ⟨h1, h2, h3⟩, hB, he⟩ hK
  dsimp only [encA, encSpot] at *
  have Hrow := Lib.hid hrow
  have HK := Lib.hid hK
  have hsz : w.heap.size + 4 ≤ W.heap.size := by have := h3.lt; omega
  clear hrow hK
  gi_wp2
  refine HK.out _ _ ((KeepsOthers.alloc _ _).from _) ⟨Below.heap_alloc _ _ _ h3.lt, fun g cs hg => blk_alloc hg _⟩ ⟨⟨v, hv.alloc _, Hrow.out.alloc _, trivial⟩, ⟨h1.alloc _, h2.alloc _, h3.alloc _⟩, hB.alloc hB.size _, he⟩ ⟨W.heap.size, hsz, blk_new W _, rfl⟩
 case hbody =>
  rintro l pre ⟨k, ⟨⟨f0, f1, f2, f3⟩, sz, er⟩⟩ a' W hl hr ⟨⟨v, hv, hrow, -⟩, ⟨h1, h2, h3⟩, hB, he⟩ ⟨Bx, hBx, hX, rfl⟩ hlt
  dsimp only [spotCells, encSpot] at *
  have c0 := blk_cell hX 0
  have c1 := blk_cell hX 1
  have c2 := blk_cell hX 2
  have c3 := blk_cell hX 3
  have c5 := blk_cell hX 5
  simp only [List.getElem?_toArray, List.getElem?_cons_succ, List.getElem?_cons_zero] at c0 c1 c2 c3 c5
  have hs4 : w.heap.size + 4 ≤ W.heap.size := by have := h3.lt; omega
  have hvc := hv.cell
  have hvf := hv.frozen
  by_cases her : er = 0
  ·subst her
   have Hr := Lib.hid hrow
   have HX := Lib.hid hX
   clear hrow hX c5
   have c5 : W.cell? ⟨Bx, 5, none⟩ = some (.int .i64 0) := by rw [blk_cell HX.out 5]; rfl
   gi_wp2_with (gi_at_builtin; refine wpListIn_append_own _ rfl _ _ 41 rfl w.heap.size 47 i0 (.agg #[(.int .i64 0), (.int .u8 0), (.string ⟨#[]⟩), (.int .i64 0)]) 4 40 Try.underlying41 hi hz0 hz1 hz2 rfl (by decide) _ _ _ rfl (Hr.out.alloc _) ⟨W.heap.size, 0, none⟩ 1 1 [.int .i64 f0, .int .u8 f1, .string f2, .int .i64 f3] rfl rfl ?c1 ?c2 ?c3 ?c4 ?c5 ?c6)
   case c1 => exact cells_new W [.int .i64 f0, .int .u8 f1, .string f2, .int .i64 f3] 47
   case c2 => simp [Value.oneCell']
   case c3 => unfold maxLen; omega
   case c4 => omega
   case c5 => simp; omega
   case c6 =>
    intro v' w1 hown' hgrow _
    obtain ⟨g', cap', rfl⟩ := ownsRow_succ hown'
    obtain ⟨hv1, hv2, hr2, hk2, hb2⟩ := hv.appended (by decide) Hr.out (show w.heap.size ≤ W.heap.size by omega) (Nat.le_refl _) hown' hgrow
    have hkeep : ∀ (g : Nat) (cs : Array Value) (t : TypeId), t ≠ 41 → t ≠ 47 → W.heap[g]? = some (.cells cs t (0, 0)) → (w1.setCell ⟨w.heap.size, 0, none⟩ (Value.slice (some ⟨g', 0, none⟩) (pre.length + 1) cap')).heap[g]? = some (.cells cs t (0, 0)) := fun g cs t ht1 ht2 hg => by
     have hgl : g ≠ w.heap.size := fun e => by
      subst e
      rw [show W.heap[w.heap.size]? = _ from hv] at hg
      simp only [Option.some.injEq, Obj.cells.injEq] at hg
      exact ht1 hg.2.1.symm
     rw [Below.heap_setCell _ _ _ _ hgl]
     exact (hgrow.block g (by simp; have := blk_lt hg; omega) (own_ne Hr.out hg (Ne.symm ht2))).trans (blk_alloc hg _)
    have q1 := hkeep _ _ 3 (by decide) (by decide) h1
    have q2 := hkeep _ _ 42 (by decide) (by decide) h2
    have q3 := hkeep _ _ 9 (by decide) (by decide) h3
    have q4 : ∀ (g : Nat) (cs : Array Value), W.heap[g]? = some (.cells cs 87 (0, 0)) → (w1.setCell ⟨w.heap.size, 0, none⟩ (Value.slice (some ⟨g', 0, none⟩) (pre.length + 1) cap')).heap[g]? = some (.cells cs 87 (0, 0)) := fun g cs hg => hkeep g cs 87 (by decide) (by decide) hg
    have q5 := h3
    have hc1 := hv1.cell
    have hf1 := hv1.frozen
    have HQ := Lib.hid (And.intro q1 (And.intro q2 (And.intro q3 (And.intro q4 (And.intro hr2 (And.intro hv2 hown'))))))
    clear q1 q2 q3 q4 hr2 hv2 hown' hkeep hv1 c0 c1 c2 c3 c5 hvc hvf
    gi_wp2
    obtain ⟨q1, q2, q3, q4, hr2, hv2, -⟩ := HQ.out
    refine ⟨hk2.from _, ⟨q3.trans (show W.heap[w.heap.size + 1 + 1 + 1]? = _ from h3).symm, q4⟩, ⟨_, hv2, ?_, trivial⟩, ⟨q1, q2, q3⟩, hB.trans (hb2.mono (by omega)), lastE_snoc _ _⟩
    rw [lexes_snoc, flat47_snoc]
    simpa using hr2
  ·have hb1 : (er == 0) = false := beq_eq_false_iff_ne.2 her
   have hb2 : (er != 0) = true := bne_iff_ne.2 her
   have Hr := Lib.hid hrow
   have HX := Lib.hid hX
   have e1 := h1.cell
   have e2 := h1.frozen
   have e3 := h2.cell
   have e4 := h2.frozen
   have Her := Lib.hid her
   clear hrow hX her
   gi_wp2
   have mixed : Try.prog.follows .mixedOrders = true := by kernel_rfl
   gi_region_with_o (fail)
   all_goals gi_wp2
   all_goals (try go_bits)
   all_goals
    refine ⟨?_, ⟨rfl, by rw [lastE_snoc]; exact Her.out⟩, ⟨?_, ?_, ?_⟩, ?_⟩
    ·exact (((((KeepsOthers.setCell _ _ _).trans (KeepsOthers.setCell _ _ _)).trans (KeepsOthers.setCell _ _ _)).trans (KeepsOthers.drew _)).from _)
    ·exact boxed3 hv _ _ _ _ _ _ (by simp <;> omega)
    ·rw [lastAt_snoc]
     exact boxed3 h1 _ _ _ _ _ _ (by simp <;> omega)
    ·rw [lastE_snoc]
     exact boxed3 h2 _ _ _ _ _ _ (by simp <;> omega)
    ·exact below_drew (((hB.setCell (by simp; try omega) _).setCell (by simp; try omega) _).setCell (by simp; try omega) _)
 case hdone =>
  rintro D ys W hD rfl ⟨⟨v, hv, hrow, -⟩, ⟨h1, h2, h3⟩, hB, he⟩ hK
  have e0 := hv.cell
  have e1 := hv.frozen
  have e2 := h1.cell
  have e3 := h1.frozen
  have e4 := h2.cell
  have e5 := h2.frozen
  have Hr := Lib.hid hrow
  have HK := Lib.hid hK
  obtain ⟨A, c, rfl⟩ := own_slice hrow
  clear hrow hK
  simp only [Exit.inBlock, Exit.then]
  gi_wp2
  have n0 := own_ne Hr.out hv (by decide)
  have n1 := own_ne Hr.out h1 (by decide)
  have n2 := own_ne Hr.out h2 (by decide)
  have hro := own_setCell (own_setCell (own_setCell Hr.out (p := ⟨w.heap.size, 0, none⟩) n0 (Value.slice A (allL s s.size 0).length c)) (p := ⟨w.heap.size + 1, 0, none⟩) n1 (Value.int IntKind.i64 0)) (p := ⟨w.heap.size + 1 + 1, 0, none⟩) n2 (Value.int IntKind.i64 0)
  have q0 := boxed3n hv w.heap.size (w.heap.size + 1) (w.heap.size + 1 + 1) (Value.slice A (allL s s.size 0).length c) (.int .i64 0) (.int .i64 0) (v' := Value.slice A (allL s s.size 0).length c) (by simp <;> omega)
  have q1 := boxed3n h1 w.heap.size (w.heap.size + 1) (w.heap.size + 1 + 1) (Value.slice A (allL s s.size 0).length c) (.int .i64 0) (.int .i64 0) (v' := .int .i64 0) (by simp)
  have q2 := boxed3n h2 w.heap.size (w.heap.size + 1) (w.heap.size + 1 + 1) (Value.slice A (allL s s.size 0).length c) (.int .i64 0) (.int .i64 0) (v' := .int .i64 0) (by simp)
  have hk2 : (((W.setCell ⟨w.heap.size, 0, none⟩ (Value.slice A (allL s s.size 0).length c)).setCell ⟨w.heap.size + 1, 0, none⟩ (.int .i64 0)).setCell ⟨w.heap.size + 1 + 1, 0, none⟩ (.int .i64 0)).heap[D]? = some (.deferred (some [])) := by
   rw [Below.heap_setCell _ _ _ _ (by simp; omega), Below.heap_setCell _ _ _ _ (by simp; omega), Below.heap_setCell _ _ _ _ (by simp; omega)]; exact HK.out
  have hbel : Below w.heap.size w (((W.setCell ⟨w.heap.size, 0, none⟩ (Value.slice A (allL s s.size 0).length c)).setCell ⟨w.heap.size + 1, 0, none⟩ (.int .i64 0)).setCell ⟨w.heap.size + 1 + 1, 0, none⟩ (.int .i64 0)) :=
   ((hB.setCell (show w.heap.size ≤ w.heap.size by omega) _).setCell (show w.heap.size ≤ w.heap.size + 1 by omega) _).setCell (show w.heap.size ≤ w.heap.size + 1 + 1 by omega) _
  clear e0 e1 e2 e3 e4 e5 hv h1 h2 h3 hB b0 b1 b2 b3 n0 n1 n2
  generalize (((W.setCell ⟨w.heap.size, 0, none⟩ (Value.slice A (allL s s.size 0).length c)).setCell ⟨w.heap.size + 1, 0, none⟩ (.int .i64 0)).setCell ⟨w.heap.size + 1 + 1, 0, none⟩ (.int .i64 0)) = W2 at *
  refine ⟨by simp, .inl ⟨_, _, rfl, run_takeDeferred hk2, ?_⟩⟩
  have hbd : Below w.heap.size W2 (W2.putObj D (.deferred none)) := belowK_b (w := w) (Nat.le_refl _) W2 D (.deferred (some [])) (.deferred none) (by omega) hk2 rfl rfl
  have p0 := (q0.kept (grownBy_putObj' W2 D (.deferred none)) (by simp; omega)).cell
  have p1 := (q1.kept (grownBy_putObj' W2 D (.deferred none)) (by simp; omega)).cell
  have p2 := (q2.kept (grownBy_putObj' W2 D (.deferred none)) (by simp; omega)).cell
  have hlex : lexP s = (lexes (allL s s.size 0), 0, 0) := by unfold lexP; rw [if_neg (by omega), if_pos he]
  have hro2 := ownsRow_putObj hro (.deferred none) hk2 rfl
  rw [show (allL s s.size 0).length = (lexes (allL s s.size 0)).length from (lexes_length _).symm] at hro2 p0 ⊢
  refine ⟨_, ?_, _, _, _, _, rfl, hlex, own_R47 hro2 _ (Nat.le_refl _), hbel.trans hbd⟩
  simp [results, Try.results45, go_sem, p0, p1, p2]
 case hstop =>
  rintro D c pre W hD hpre ⟨⟨rfl, he⟩, ⟨h0, h1, h2⟩, hB⟩ hK
  have hw := allL_whole s s.size 0 pre hpre he
  have hlex : lexP s = ([], lastAt pre, lastE pre) := by unfold lexP; rw [if_neg (by omega), ← hw, if_neg he]
  gi_wp2
  refine ⟨by simp, .inl ⟨_, _, rfl, run_takeDeferred hK, ?_⟩⟩
  have hbd : Below w.heap.size W (W.putObj D (.deferred none)) := belowK_b (w := w) (Nat.le_refl _) W D (.deferred (some [])) (.deferred none) (by omega) hK rfl rfl
  have p0 := (h0.kept (grownBy_putObj' W D (.deferred none)) (by simp; omega)).cell
  have p1 := (h1.kept (grownBy_putObj' W D (.deferred none)) (by simp; omega)).cell
  have p2 := (h2.kept (grownBy_putObj' W D (.deferred none)) (by simp; omega)).cell
  refine ⟨_, ?_, _, _, _, _, rfl, hlex, Kd.R_nil _ _ _ _ _, hB.trans hbd⟩
  simp [results, Try.results45, go_sem, p0, p1, p2]
set_option maxHeartbeats 1000000 in
theorem lexOf_long (s : ByteArray) (hs : 8192 < s.size) (w : World) :
  Calls Try.prog 45 #[.string s] w fun e W' => e = .returned (.tuple #[.slice none 0 0, .int .i64 0, .int .i64 4]) ∧ Below w.heap.size w W' := by
 have hs2 : (8192 : Int) < (s.size : Int) := by omega
 go_enter Try.func45, Try.ntmps45
 go_wp2
 refine bodyPost_ret (v := .tuple #[.slice none 0 0, .int .i64 0, .int .i64 4]) (by simp [results, Try.results45, go_sem]) rfl ⟨rfl, ?_⟩
 exact (((Below.refl _ w).alloc (Nat.le_refl _) _).alloc (by simp) _).alloc (by simp; omega) _
def lex_Of.f (a0 : ByteArray) : Option (List S47 × Int × Int) := some (lexP a0)
theorem lex_Of.calls (a0 : ByteArray) (r1 : List S47) (r2 r3 : Int) (w : World) (h : lex_Of.f a0 = some (r1, r2, r3)) :
  Calls Try.prog 45 #[.string a0] w fun e w' => ∃ v0_ : Value, e = .returned (.tuple #[v0_, .int .i64 r2, .int .i64 r3]) ∧ Kd.R k47 47 w' w.heap.size (fun _ => True) v0_ r1 ∧ Below w.heap.size w w' := by
 have h1 : lexP a0 = (r1, r2, r3) := Option.some.inj h
 by_cases hs : a0.size ≤ 8192
 ·refine (callsIn_wide.1 (lexOf_in a0 hs w)).mono ?_
  rintro e W' ⟨v, l, a, b, rfl, h2, h3, h4⟩
  rw [h1] at h2
  simp only [Prod.mk.injEq] at h2
  obtain ⟨rfl, rfl, rfl⟩ := h2
  exact ⟨v, rfl, h3, h4⟩
 ·have h2 : lexP a0 = ([], 0, 4) := if_pos (by omega)
  rw [h1] at h2
  simp only [Prod.mk.injEq] at h2
  obtain ⟨rfl, rfl, rfl⟩ := h2
  refine (lexOf_long a0 (by omega) w).mono ?_
  rintro e W' ⟨rfl, h4⟩
  exact ⟨_, rfl, Kd.R_nil _ _ _ _ _, h4⟩
end Go.Proofs.Ythcmfjpheanphaa.Pr
namespace Go.Proofs.Ythcmfjpheanphaa.Pr
open Go.RowKit Go.Proofs.YthcmfjpheanphaaW.PrintWords Go.Proofs.YthcmfjpheanphaaW.PrintLast Go.Proofs.YthcmfjpheanphaaW.PrintMore
attribute [local go_sem] max2_int min2_int max_two min_two max_three min_three max_four min_four
attribute [local go_sem high] eqA47
def stylusref03_Same.l0 : Nat → List (S47) → List (S47) → Int → Option (Bool)
 | 0, _, _, _ => none
 | k + 1, x0, x1, x5 => if x5 < (x0.length : Int) then (if 0 ≤ x5 then (if x5 < (x1.length : Int) then (if (!(((rd_T47 x0 x5).f0) == ((rd_T47 x1 x5).f0)) || (!(((rd_T47 x0 x5).f1) == ((rd_T47 x1 x5).f1)) || (!((((rd_T47 x0 x5).f2).toList) == (((rd_T47 x1 x5).f2).toList)) || (!(((rd_T47 x0 x5).f3) == ((rd_T47 x1 x5).f3)))))) = true then (some false) else (stylusref03_Same.l0 k x0 x1 (wrap64 (x5 + 1)))) else (none)) else (none)) else (some true)
def stylusref03_Same.f (k : Nat) (l0 : List (S47)) (l1 : List (S47)) : Option (Bool) := if (l0.length : Int) = (l1.length : Int) then (stylusref03_Same.l0 k l0 l1 0) else (some false)
theorem stylusref03_Same.mono_l : ∀ k, (∀ y0 y1 y2, LeO (stylusref03_Same.l0 k y0 y1 y2) (stylusref03_Same.l0 (k + 1) y0 y1 y2))
 | 0 => fun _ _ _ r h => by simp [stylusref03_Same.l0] at h
 | k + 1 => by
  have ih0 := stylusref03_Same.mono_l k
  ·intro y0 y1 y2
   unfold stylusref03_Same.l0
   repeat' first
   | (with_reducible exact ih0 _ _ _)
   | (with_reducible exact LeO.refl _)
   | (with_reducible exact LeO.none _)
   | (with_reducible refine LeO.ite ?_ ?_)
   | (with_reducible refine LeO.bind ?_ (fun _ => ?_))
   | exact ih0 _ _ _
   | exact LeO.none _
   | refine LeO.ite ?_ ?_
   | refine LeO.bind ?_ (fun _ => ?_)
theorem stylusref03_Same.mono : ∀ a0 a1 k, LeO (stylusref03_Same.f k a0 a1) (stylusref03_Same.f (k + 1) a0 a1) := by
 intro a0 a1 k
 have ih0 := stylusref03_Same.mono_l k
 unfold stylusref03_Same.f
 repeat' first
   | (with_reducible exact ih0 _ _ _)
   | (with_reducible exact LeO.refl _)
   | (with_reducible exact LeO.none _)
   | (with_reducible refine LeO.ite ?_ ?_)
   | (with_reducible refine LeO.bind ?_ (fun _ => ?_))
   | exact ih0 _ _ _
   | exact LeO.none _
   | refine LeO.ite ?_ ?_
   | refine LeO.bind ?_ (fun _ => ?_)
def styluslaw03_read.f (k : Nat) (a0 : ByteArray) (l1 : List (S47)) : Option (Bool) := (lex_Of.f a0).bind fun bt103 => (if bt103.2.2 = 0 then (if bt103.2.1 = 0 then ((stylusref03_Same.f k bt103.1 l1).bind fun t108 => (some t108)) else (some false)) else (some false))
theorem styluslaw03_read.mono : ∀ a0 a1 k, LeO (styluslaw03_read.f k a0 a1) (styluslaw03_read.f (k + 1) a0 a1) := by
 intro a0 a1 k
 unfold styluslaw03_read.f
 repeat' first
   | (with_reducible exact stylusref03_Same.mono _ _ _)
   | (with_reducible exact LeO.refl _)
   | (with_reducible exact LeO.none _)
   | (with_reducible refine LeO.ite ?_ ?_)
   | (with_reducible refine LeO.bind ?_ (fun _ => ?_))
   | exact stylusref03_Same.mono _ _ _
   | exact LeO.none _
   | refine LeO.ite ?_ ?_
   | refine LeO.bind ?_ (fun _ => ?_)
def styluslaw03_spoilt.f (a0 : ByteArray) (a1 : Int) (a2 : Int) : Option (Bool) := (lex_Of.f a0).bind fun bt109 => (if (bt109.1.length : Int) = 0 then (if bt109.2.1 = a1 then (some (bt109.2.2 == a2)) else (some false)) else (some false))
def styluslaw03_awake.f (k : Nat)  : Option (Bool) := (styluslaw03_read.f k (⟨#[123, 112, 32, 97, 32, 98, 125]⟩ : ByteArray) (([(⟨2, 112, (⟨#[]⟩ : ByteArray), 0⟩ : S47), (⟨1, 0, (⟨#[97, 32, 98]⟩ : ByteArray), 3⟩ : S47), (⟨3, 0, (⟨#[]⟩ : ByteArray), 6⟩ : S47)] : List (S47)))).bind fun t117 => (if t117 = true then ((styluslaw03_read.f k (⟨#[123, 104, 49, 97, 125, 125]⟩ : ByteArray) (([(⟨2, 49, (⟨#[]⟩ : ByteArray), 0⟩ : S47), (⟨1, 0, (⟨#[97]⟩ : ByteArray), 3⟩ : S47), (⟨3, 0, (⟨#[]⟩ : ByteArray), 4⟩ : S47), (⟨3, 0, (⟨#[]⟩ : ByteArray), 5⟩ : S47)] : List (S47)))).bind fun t121 => (if t121 = true then ((styluslaw03_read.f k (⟨#[]⟩ : ByteArray) ([] : List (S47))).bind fun t122 => (if t122 = true then ((styluslaw03_spoilt.f (⟨#[123, 113, 125]⟩ : ByteArray) 0 2).bind fun t123 => (if t123 = true then ((styluslaw03_spoilt.f (⟨#[97, 123]⟩ : ByteArray) 1 2).bind fun t124 => (if t124 = true then ((styluslaw03_spoilt.f (⟨#[97, 126]⟩ : ByteArray) 1 3).bind fun t125 => (if t125 = true then ((styluslaw03_spoilt.f (⟨#[123, 104, 52, 125]⟩ : ByteArray) 0 2).bind fun t126 => (some t126)) else (some false))) else (some false))) else (some false))) else (some false))) else (some false))) else (some false))
theorem styluslaw03_awake.mono : ∀ k, LeO (styluslaw03_awake.f k ) (styluslaw03_awake.f (k + 1) ) := by
 intro  k
 unfold styluslaw03_awake.f
 repeat' first
   | (with_reducible exact styluslaw03_read.mono _ _ _)
   | (with_reducible exact LeO.refl _)
   | (with_reducible exact LeO.none _)
   | (with_reducible refine LeO.ite ?_ ?_)
   | (with_reducible refine LeO.bind ?_ (fun _ => ?_))
   | exact styluslaw03_read.mono _ _ _
   | exact LeO.none _
   | refine LeO.ite ?_ ?_
   | refine LeO.bind ?_ (fun _ => ?_)
def stylusref03_Letters.f  : Option (ByteArray) := some (⟨#[49, 50, 51, 112, 108, 105, 116, 114, 99, 110, 101, 115, 107]⟩ : ByteArray)
mutual
def stylusref03_Name.j0 : Nat → Int → Bool → Option (ByteArray)
 | 0, _, _ => none
 | k + 1, x0, x13 => if x13 = true then ((some (([x0] : List Int) : List Int)).bind fun y127 => (if 1 + (strOfNums y127).size ≤ 9223372036854775807 then (some ((⟨#[104]⟩ : ByteArray) ++ (strOfNums y127))) else (none))) else (stylusref03_Name.l0 k x0 0)
def stylusref03_Name.l0 : Nat → Int → Int → Option (ByteArray)
 | 0, _, _ => none
 | k + 1, x0, x3 => (stylusref03_Letters.f).bind fun t130 => (if x3 < (t130.size : Int) then ((stylusref03_Letters.f).bind fun t131 => (if 0 ≤ x3 then (if x3 < (t131.size : Int) then (if (bt t131 x3) = x0 then (some (strOfNums (([x0] : List Int)))) else (stylusref03_Name.l0 k x0 (wrap64 (x3 + 1)))) else (none)) else (none))) else (some (⟨#[]⟩ : ByteArray)))
end
def stylusref03_Name.f (k : Nat) (a0 : Int) : Option (ByteArray) := if a0 = 49 then (stylusref03_Name.j0 k a0 true) else (if a0 = 50 then (stylusref03_Name.j0 k a0 true) else (stylusref03_Name.j0 k a0 (a0 == 51)))
theorem stylusref03_Name.mono_l : ∀ k, (∀ y0 y1, LeO (stylusref03_Name.j0 k y0 y1) (stylusref03_Name.j0 (k + 1) y0 y1)) ∧ (∀ y0 y1, LeO (stylusref03_Name.l0 k y0 y1) (stylusref03_Name.l0 (k + 1) y0 y1))
 | 0 => ⟨fun _ _ r h => by simp [stylusref03_Name.j0] at h, fun _ _ r h => by simp [stylusref03_Name.l0] at h⟩
 | k + 1 => by
  obtain ⟨ih0, ih1⟩ := stylusref03_Name.mono_l k
  refine ⟨?_, ?_⟩
  ·intro y0 y1
   unfold stylusref03_Name.j0
   repeat' first
   | (with_reducible exact ih0 _ _)
   | (with_reducible exact ih1 _ _)
   | (with_reducible exact LeO.refl _)
   | (with_reducible exact LeO.none _)
   | (with_reducible refine LeO.ite ?_ ?_)
   | (with_reducible refine LeO.bind ?_ (fun _ => ?_))
   | exact ih0 _ _
   | exact ih1 _ _
   | exact LeO.none _
   | refine LeO.ite ?_ ?_
   | refine LeO.bind ?_ (fun _ => ?_)
  ·intro y0 y1
   unfold stylusref03_Name.l0
   repeat' first
   | (with_reducible exact ih0 _ _)
   | (with_reducible exact ih1 _ _)
   | (with_reducible exact LeO.refl _)
   | (with_reducible exact LeO.none _)
   | (with_reducible refine LeO.ite ?_ ?_)
   | (with_reducible refine LeO.bind ?_ (fun _ => ?_))
   | exact ih0 _ _
   | exact ih1 _ _
   | exact LeO.none _
   | refine LeO.ite ?_ ?_
   | refine LeO.bind ?_ (fun _ => ?_)
theorem stylusref03_Name.mono : ∀ a0 k, LeO (stylusref03_Name.f k a0) (stylusref03_Name.f (k + 1) a0) := by
 intro a0 k
 obtain ⟨ih0, ih1⟩ := stylusref03_Name.mono_l k
 unfold stylusref03_Name.f
 repeat' first
   | (with_reducible exact ih0 _ _)
   | (with_reducible exact ih1 _ _)
   | (with_reducible exact LeO.refl _)
   | (with_reducible exact LeO.none _)
   | (with_reducible refine LeO.ite ?_ ?_)
   | (with_reducible refine LeO.bind ?_ (fun _ => ?_))
   | exact ih0 _ _
   | exact ih1 _ _
   | exact LeO.none _
   | refine LeO.ite ?_ ?_
   | refine LeO.bind ?_ (fun _ => ?_)
def stylusref03_opens.l0 : Nat → ByteArray → Int → Int → Option (Int × ByteArray)
 | 0, _, _, _ => none
 | k + 1, x0, x1, x6 => (stylusref03_Letters.f).bind fun t135 => (if x6 < (t135.size : Int) then ((stylusref03_Letters.f).bind fun t136 => (if 0 ≤ x6 then (if x6 < (t136.size : Int) then ((stylusref03_Name.f k (bt t136 x6)).bind fun t137 => (if (wrap64 ((wrap64 (x1 + 1)) + (t137.size : Int))) ≤ (x0.size : Int) then (if 0 ≤ (wrap64 (x1 + 1)) then (if (wrap64 (x1 + 1)) ≤ (wrap64 ((wrap64 (x1 + 1)) + (t137.size : Int))) then (if (x0.extract ((wrap64 (x1 + 1)) : Int).toNat ((wrap64 ((wrap64 (x1 + 1)) + (t137.size : Int))) : Int).toNat).toList = t137.toList then ((stylusref03_Letters.f).bind fun t138 => (if x6 < (t138.size : Int) then (some (bt t138 x6, t137)) else (none))) else (stylusref03_opens.l0 k x0 x1 (wrap64 (x6 + 1)))) else (none)) else (none)) else (stylusref03_opens.l0 k x0 x1 (wrap64 (x6 + 1))))) else (none)) else (none))) else (some (0, (⟨#[]⟩ : ByteArray))))
def stylusref03_opens.f (k : Nat) (a0 : ByteArray) (a1 : Int) : Option (Int × ByteArray) := stylusref03_opens.l0 k a0 a1 0
theorem stylusref03_opens.mono_l : ∀ k, (∀ y0 y1 y2, LeO (stylusref03_opens.l0 k y0 y1 y2) (stylusref03_opens.l0 (k + 1) y0 y1 y2))
 | 0 => fun _ _ _ r h => by simp [stylusref03_opens.l0] at h
 | k + 1 => by
  have ih0 := stylusref03_opens.mono_l k
  ·intro y0 y1 y2
   unfold stylusref03_opens.l0
   repeat' first
   | (with_reducible exact ih0 _ _ _)
   | (with_reducible exact stylusref03_Name.mono _ _)
   | (with_reducible exact LeO.refl _)
   | (with_reducible exact LeO.none _)
   | (with_reducible refine LeO.ite ?_ ?_)
   | (with_reducible refine LeO.bind ?_ (fun _ => ?_))
   | exact ih0 _ _ _
   | exact stylusref03_Name.mono _ _
   | exact LeO.none _
   | refine LeO.ite ?_ ?_
   | refine LeO.bind ?_ (fun _ => ?_)
theorem stylusref03_opens.mono : ∀ a0 a1 k, LeO (stylusref03_opens.f k a0 a1) (stylusref03_opens.f (k + 1) a0 a1) := by
 intro a0 a1 k
 have ih0 := stylusref03_opens.mono_l k
 unfold stylusref03_opens.f
 repeat' first
   | (with_reducible exact ih0 _ _ _)
   | (with_reducible exact stylusref03_Name.mono _ _)
   | (with_reducible exact LeO.refl _)
   | (with_reducible exact LeO.none _)
   | (with_reducible refine LeO.ite ?_ ?_)
   | (with_reducible refine LeO.bind ?_ (fun _ => ?_))
   | exact ih0 _ _ _
   | exact stylusref03_Name.mono _ _
   | exact LeO.none _
   | refine LeO.ite ?_ ?_
   | refine LeO.bind ?_ (fun _ => ?_)
def stylusref01_White.f (a0 : Int) : Option (Bool) := if a0 = 32 then (some true) else (some (a0 == 10))
end Go.Proofs.Ythcmfjpheanphaa.Pr
namespace Go.Proofs.Ythcmfjpheanphaa.Pr
open Go.RowKit Go.Proofs.YthcmfjpheanphaaW.PrintWords Go.Proofs.YthcmfjpheanphaaW.PrintLast Go.Proofs.YthcmfjpheanphaaW.PrintMore
attribute [local go_sem] max2_int min2_int max_two min_two max_three min_three max_four min_four
mutual
def stylusref03_Of.l0 : Nat → ByteArray → List (S47) → Int → Int → Option ((List (S47)) × Int × Int)
 | 0, _, _, _, _ => none
 | k + 1, x0, x5, x6, x7 => if x7 < (x0.size : Int) then (if 0 ≤ x7 then (if (bt x0 x7) = 125 then (if x5.length < 3518437208883 then (stylusref03_Of.l0 k x0 (x5 ++ [(⟨3, 0, (⟨#[]⟩ : ByteArray), x7⟩ : S47)]) 0 (wrap64 (x7 + 1))) else (none)) else (if (bt x0 x7) = 123 then ((stylusref03_opens.f k x0 x7).bind fun bt142 => (if bt142.1 = 0 then (some (([] : List (S47)), x7, 2)) else (if x5.length < 3518437208883 then ((some (x5 ++ [(⟨2, bt142.1, (⟨#[]⟩ : ByteArray), x7⟩ : S47)] : List (S47))).bind fun y144 => (if (wrap64 ((wrap64 (x7 + (bt142.2.size : Int))) + 1)) < (x0.size : Int) then (if 0 ≤ (wrap64 ((wrap64 (x7 + (bt142.2.size : Int))) + 1)) then ((stylusref01_White.f (bt x0 (wrap64 ((wrap64 (x7 + (bt142.2.size : Int))) + 1)))).bind fun t147 => (if t147 = true then (stylusref03_Of.l0 k x0 y144 0 (wrap64 ((wrap64 ((wrap64 (x7 + (bt142.2.size : Int))) + 1)) + 1))) else (stylusref03_Of.l0 k x0 y144 0 (wrap64 ((wrap64 (x7 + (bt142.2.size : Int))) + 1))))) else (none)) else (stylusref03_Of.l0 k x0 y144 0 (wrap64 ((wrap64 (x7 + (bt142.2.size : Int))) + 1))))) else (none)))) else ((stylusref01_Is.f k (bt x0 x7)).bind fun t148 => (if t148 = true then (stylusref03_Of.j1 k x0 x5 x6 x7 false) else ((stylusref01_White.f (bt x0 x7)).bind fun t149 => (stylusref03_Of.j1 k x0 x5 x6 x7 (!t149))))))) else (none)) else (some (x5, 0, 0))
def stylusref03_Of.j1 : Nat → ByteArray → List (S47) → Int → Int → Bool → Option ((List (S47)) × Int × Int)
 | 0, _, _, _, _, _ => none
 | k + 1, x0, x5, x6, x7, x76 => if x76 = true then (some (([] : List (S47)), x7, 3)) else (if x6 = 0 then (if x5.length < 3518437208883 then ((some (x5 ++ [(⟨1, 0, (⟨#[]⟩ : ByteArray), x7⟩ : S47)] : List (S47))).bind fun y150 => (if 0 ≤ (wrap64 ((y150.length : Int) - 1)) then (if (wrap64 ((y150.length : Int) - 1)) < (y150.length : Int) then (if 0 ≤ x7 then (if x7 ≤ (wrap64 (x7 + 1)) then (if (wrap64 (x7 + 1)) ≤ (x0.size : Int) then (if ((rd_T47 y150 (wrap64 ((y150.length : Int) - 1))).f2).size + (x0.extract (x7 : Int).toNat ((wrap64 (x7 + 1)) : Int).toNat).size ≤ 9223372036854775807 then (stylusref03_Of.l0 k x0 (y150.set ((wrap64 ((y150.length : Int) - 1)) : Int).toNat (⟨(rd_T47 y150 (wrap64 ((y150.length : Int) - 1))).f0, (rd_T47 y150 (wrap64 ((y150.length : Int) - 1))).f1, ((rd_T47 y150 (wrap64 ((y150.length : Int) - 1))).f2) ++ (x0.extract (x7 : Int).toNat ((wrap64 (x7 + 1)) : Int).toNat), (rd_T47 y150 (wrap64 ((y150.length : Int) - 1))).f3⟩ : S47)) 1 (wrap64 (x7 + 1))) else (none)) else (none)) else (none)) else (none)) else (none)) else (none))) else (none)) else (if 0 ≤ (wrap64 ((x5.length : Int) - 1)) then (if (wrap64 ((x5.length : Int) - 1)) < (x5.length : Int) then (if 0 ≤ x7 then (if x7 ≤ (wrap64 (x7 + 1)) then (if (wrap64 (x7 + 1)) ≤ (x0.size : Int) then (if ((rd_T47 x5 (wrap64 ((x5.length : Int) - 1))).f2).size + (x0.extract (x7 : Int).toNat ((wrap64 (x7 + 1)) : Int).toNat).size ≤ 9223372036854775807 then (stylusref03_Of.l0 k x0 (x5.set ((wrap64 ((x5.length : Int) - 1)) : Int).toNat (⟨(rd_T47 x5 (wrap64 ((x5.length : Int) - 1))).f0, (rd_T47 x5 (wrap64 ((x5.length : Int) - 1))).f1, ((rd_T47 x5 (wrap64 ((x5.length : Int) - 1))).f2) ++ (x0.extract (x7 : Int).toNat ((wrap64 (x7 + 1)) : Int).toNat), (rd_T47 x5 (wrap64 ((x5.length : Int) - 1))).f3⟩ : S47)) x6 (wrap64 (x7 + 1))) else (none)) else (none)) else (none)) else (none)) else (none)) else (none)))
end
def stylusref03_Of.f (k : Nat) (a0 : ByteArray) : Option ((List (S47)) × Int × Int) := if (a0.size : Int) > 8192 then (some (([] : List (S47)), 0, 4)) else (stylusref03_Of.l0 k a0 ([] : List (S47)) 0 0)
theorem stylusref03_Of.mono_l : ∀ k, (∀ y0 y1 y2 y3, LeO (stylusref03_Of.l0 k y0 y1 y2 y3) (stylusref03_Of.l0 (k + 1) y0 y1 y2 y3)) ∧ (∀ y0 y1 y2 y3 y4, LeO (stylusref03_Of.j1 k y0 y1 y2 y3 y4) (stylusref03_Of.j1 (k + 1) y0 y1 y2 y3 y4))
 | 0 => ⟨fun _ _ _ _ r h => by simp [stylusref03_Of.l0] at h, fun _ _ _ _ _ r h => by simp [stylusref03_Of.j1] at h⟩
 | k + 1 => by
  obtain ⟨ih0, ih1⟩ := stylusref03_Of.mono_l k
  refine ⟨?_, ?_⟩
  ·intro y0 y1 y2 y3
   unfold stylusref03_Of.l0
   repeat' first
   | (with_reducible exact ih0 _ _ _ _)
   | (with_reducible exact ih1 _ _ _ _ _)
   | (with_reducible exact stylusref01_Is.mono _ _)
   | (with_reducible exact stylusref03_opens.mono _ _ _)
   | (with_reducible exact LeO.refl _)
   | (with_reducible exact LeO.none _)
   | (with_reducible refine LeO.ite ?_ ?_)
   | (with_reducible refine LeO.bind ?_ (fun _ => ?_))
   | exact ih0 _ _ _ _
   | exact ih1 _ _ _ _ _
   | exact stylusref01_Is.mono _ _
   | exact stylusref03_opens.mono _ _ _
   | exact LeO.none _
   | refine LeO.ite ?_ ?_
   | refine LeO.bind ?_ (fun _ => ?_)
  ·intro y0 y1 y2 y3 y4
   unfold stylusref03_Of.j1
   repeat' first
   | (with_reducible exact ih0 _ _ _ _)
   | (with_reducible exact ih1 _ _ _ _ _)
   | (with_reducible exact stylusref01_Is.mono _ _)
   | (with_reducible exact stylusref03_opens.mono _ _ _)
   | (with_reducible exact LeO.refl _)
   | (with_reducible exact LeO.none _)
   | (with_reducible refine LeO.ite ?_ ?_)
   | (with_reducible refine LeO.bind ?_ (fun _ => ?_))
   | exact ih0 _ _ _ _
   | exact ih1 _ _ _ _ _
   | exact stylusref01_Is.mono _ _
   | exact stylusref03_opens.mono _ _ _
   | exact LeO.none _
   | refine LeO.ite ?_ ?_
   | refine LeO.bind ?_ (fun _ => ?_)
theorem stylusref03_Of.mono : ∀ a0 k, LeO (stylusref03_Of.f k a0) (stylusref03_Of.f (k + 1) a0) := by
 intro a0 k
 obtain ⟨ih0, ih1⟩ := stylusref03_Of.mono_l k
 unfold stylusref03_Of.f
 repeat' first
   | (with_reducible exact ih0 _ _ _ _)
   | (with_reducible exact ih1 _ _ _ _ _)
   | (with_reducible exact stylusref01_Is.mono _ _)
   | (with_reducible exact stylusref03_opens.mono _ _ _)
   | (with_reducible exact LeO.refl _)
   | (with_reducible exact LeO.none _)
   | (with_reducible refine LeO.ite ?_ ?_)
   | (with_reducible refine LeO.bind ?_ (fun _ => ?_))
   | exact ih0 _ _ _ _
   | exact ih1 _ _ _ _ _
   | exact stylusref01_Is.mono _ _
   | exact stylusref03_opens.mono _ _ _
   | exact LeO.none _
   | refine LeO.ite ?_ ?_
   | refine LeO.bind ?_ (fun _ => ?_)
mutual
def stylusref01_Case.l0 : Nat → ByteArray → Int → Int → Option (Int)
 | 0, _, _, _ => none
 | k + 1, x0, x3, x4 => if x4 < (x0.size : Int) then (if 0 ≤ x4 then ((stylusref01_Letter.f k (bt x0 x4)).bind fun t138 => (if t138 = true then ((stylusref01_Class.f k (bt x0 x4)).bind fun t139 => (if t139 = 2 then (stylusref01_Case.l0 k x0 (wrap64 (x3 + 1)) (wrap64 (x4 + 1))) else (stylusref01_Case.l0 k x0 x3 (wrap64 (x4 + 1))))) else (some 0))) else (none)) else (if (x0.size : Int) = 0 then (some 0) else (if x3 = 0 then (some 1) else (if x3 = 1 then (if 0 < (x0.size : Int) then ((stylusref01_Class.f k (bt x0 0)).bind fun t140 => (stylusref01_Case.j1 k x0 x3 (t140 == 2))) else (none)) else (stylusref01_Case.j1 k x0 x3 false))))
def stylusref01_Case.j1 : Nat → ByteArray → Int → Bool → Option (Int)
 | 0, _, _, _ => none
 | k + 1, x0, x3, x35 => if x35 = true then (some 2) else (if x3 = (x0.size : Int) then (some 3) else (some 4))
end
def stylusref01_Case.f (k : Nat) (a0 : ByteArray) : Option (Int) := stylusref01_Case.l0 k a0 0 0
theorem stylusref01_Case.mono_l : ∀ k, (∀ y0 y1 y2, LeO (stylusref01_Case.l0 k y0 y1 y2) (stylusref01_Case.l0 (k + 1) y0 y1 y2)) ∧ (∀ y0 y1 y2, LeO (stylusref01_Case.j1 k y0 y1 y2) (stylusref01_Case.j1 (k + 1) y0 y1 y2))
 | 0 => ⟨fun _ _ _ r h => by simp [stylusref01_Case.l0] at h, fun _ _ _ r h => by simp [stylusref01_Case.j1] at h⟩
 | k + 1 => by
  obtain ⟨ih0, ih1⟩ := stylusref01_Case.mono_l k
  refine ⟨?_, ?_⟩
  ·intro y0 y1 y2
   unfold stylusref01_Case.l0
   repeat' first
   | (with_reducible exact ih0 _ _ _)
   | (with_reducible exact ih1 _ _ _)
   | (with_reducible exact stylusref01_Class.mono _ _)
   | (with_reducible exact stylusref01_Letter.mono _ _)
   | (with_reducible exact LeO.refl _)
   | (with_reducible exact LeO.none _)
   | (with_reducible refine LeO.ite ?_ ?_)
   | (with_reducible refine LeO.bind ?_ (fun _ => ?_))
   | exact ih0 _ _ _
   | exact ih1 _ _ _
   | exact stylusref01_Class.mono _ _
   | exact stylusref01_Letter.mono _ _
   | exact LeO.none _
   | refine LeO.ite ?_ ?_
   | refine LeO.bind ?_ (fun _ => ?_)
  ·intro y0 y1 y2
   unfold stylusref01_Case.j1
   repeat' first
   | (with_reducible exact ih0 _ _ _)
   | (with_reducible exact ih1 _ _ _)
   | (with_reducible exact stylusref01_Class.mono _ _)
   | (with_reducible exact stylusref01_Letter.mono _ _)
   | (with_reducible exact LeO.refl _)
   | (with_reducible exact LeO.none _)
   | (with_reducible refine LeO.ite ?_ ?_)
   | (with_reducible refine LeO.bind ?_ (fun _ => ?_))
   | exact ih0 _ _ _
   | exact ih1 _ _ _
   | exact stylusref01_Class.mono _ _
   | exact stylusref01_Letter.mono _ _
   | exact LeO.none _
   | refine LeO.ite ?_ ?_
   | refine LeO.bind ?_ (fun _ => ?_)
theorem stylusref01_Case.mono : ∀ a0 k, LeO (stylusref01_Case.f k a0) (stylusref01_Case.f (k + 1) a0) := by
 intro a0 k
 obtain ⟨ih0, ih1⟩ := stylusref01_Case.mono_l k
 unfold stylusref01_Case.f
 repeat' first
   | (with_reducible exact ih0 _ _ _)
   | (with_reducible exact ih1 _ _ _)
   | (with_reducible exact stylusref01_Class.mono _ _)
   | (with_reducible exact stylusref01_Letter.mono _ _)
   | (with_reducible exact LeO.refl _)
   | (with_reducible exact LeO.none _)
   | (with_reducible refine LeO.ite ?_ ?_)
   | (with_reducible refine LeO.bind ?_ (fun _ => ?_))
   | exact ih0 _ _ _
   | exact ih1 _ _ _
   | exact stylusref01_Class.mono _ _
   | exact stylusref01_Letter.mono _ _
   | exact LeO.none _
   | refine LeO.ite ?_ ?_
   | refine LeO.bind ?_ (fun _ => ?_)
end Go.Proofs.Ythcmfjpheanphaa.Pr
namespace Go.Proofs.Ythcmfjpheanphaa.Pure
open Go.RowKit Go.Proofs.Ythcmfjpheanphaa.Pr Go.Proofs.YthcmfjpheanphaaW.PrintWords
theorem byte_ext (a b : ByteArray) (hs : a.size = b.size) (h : ∀ j : Nat, j < a.size → bt a j = bt b j) : a = b := by
 apply ByteArray.ext
 apply Array.ext
 ·exact hs
 ·intro i h1 h2
  have := h i h1
  have e1 : (i : Int).toNat < a.size := by simpa using h1
  have e2 : (i : Int).toNat < b.size := by simpa using h2
  simp only [bt, dif_pos e1, dif_pos e2] at this
  have h3 : (a[(i : Int).toNat]'e1).toNat = (b[(i : Int).toNat]'e2).toNat := by omega
  have h4 := UInt8.toNat_inj.1 h3
  simpa [ByteArray.getElem_eq_getElem_data] using h4
theorem bt_extract (s : ByteArray) (i q : Nat) (h : q ≤ s.size) (j : Nat) (hj : i + j < q) : bt (s.extract i q) (j : Int) = bt s ((i + j : Nat) : Int) := by
 have h1 : (j : Int).toNat < (s.extract i q).size := by rw [ByteArray.size_extract]; simp; omega
 have h2 : ((i + j : Nat) : Int).toNat < s.size := by simp; omega
 simp only [bt, dif_pos h1, dif_pos h2]
 simp only [ByteArray.getElem_extract, Int.toNat_natCast]
end Go.Proofs.Ythcmfjpheanphaa.Pure
namespace Go.Proofs.Ythcmfjpheanphaa.Pr
open Go.RowKit Go.Proofs.YthcmfjpheanphaaW.PrintWords
def refStep (s : ByteArray) (k : Nat) (L : List S27) : List S27 :=
 match L.getLast? with
 | some p => if clsAt s k = clsAt s (k - 1) then L.dropLast ++ [⟨p.f0, p.f1 ++ s.extract k (k + 1)⟩] else L ++ [⟨k, s.extract k (k + 1)⟩]
 | none => L ++ [⟨k, s.extract k (k + 1)⟩]
def refL (s : ByteArray) : Nat → List S27
 | 0 => []
 | k + 1 => refStep s k (refL s k)
def stylusref01_Runs.f (a0 : ByteArray) : Option (List S27) := if a0.size ≤ 1000000 then some (refL a0 a0.size) else none
end Go.Proofs.Ythcmfjpheanphaa.Pr
namespace Go.Proofs.Ythcmfjpheanphaa.Pure
open Go.RowKit Go.Proofs.Ythcmfjpheanphaa.Pr Go.Proofs.YthcmfjpheanphaaW.PrintWords Go.Proofs.YthcmfjpheanphaaW.PrintLast
def lexGo (s : ByteArray) : Nat → Nat → List S47 → List S47 × Int × Int
 | 0, _, acc => (acc, 0, 0)
 | d + 1, at_, acc => if at_ < s.size then (if (nextP (s.extract at_ s.size) at_).e = 0 then lexGo s d (at_ + (nextP (s.extract at_ s.size) at_).size.toNat) (acc ++ [(nextP (s.extract at_ s.size) at_).l]) else ([], at_, (nextP (s.extract at_ s.size) at_).e)) else (acc, 0, 0)
def outL (acc : List S47) (L : List (Nat × Spot)) : List S47 × Int × Int := if lastE L = 0 then (acc ++ lexes L, 0, 0) else ([], lastAt L, lastE L)
theorem outL_nil (acc : List S47) : outL acc [] = (acc, 0, 0) := by simp [outL, lastE, lexes]
theorem outL_cons (acc : List S47) (x y : Nat × Spot) (L : List (Nat × Spot)) : outL acc (x :: y :: L) = outL (acc ++ [x.2.l]) (y :: L) := by
 have e1 : lastE (x :: y :: L) = lastE (y :: L) := by simp [lastE]
 have e2 : lastAt (x :: y :: L) = lastAt (y :: L) := by simp [lastAt]
 unfold outL
 rw [e2, show lexes (x :: y :: L) = x.2.l :: lexes (y :: L) from rfl]
 simp [e1]
theorem lexGo_all (s : ByteArray) : ∀ (d at_ : Nat) (acc : List S47), lexGo s d at_ acc = outL acc (allL s d at_)
 | 0, at_, acc => by simp only [lexGo, allL, outL_nil]
 | d + 1, at_, acc => by
  simp only [lexGo, allL]
  by_cases h : at_ < s.size
  ·rw [if_pos h, if_pos h]
   by_cases he : (nextP (s.extract at_ s.size) at_).e = 0
   ·rw [if_pos he, if_pos he, lexGo_all s d]
    generalize allL s d (at_ + (nextP (s.extract at_ s.size) at_).size.toNat) = L
    cases L with
    | nil => simp [outL, lastE, lexes, he]
    | cons y L => rw [outL_cons]
   ·rw [if_neg he, if_neg he]
    simp [outL, lastE, lastAt, he]
  ·rw [if_neg h, if_neg h, outL_nil]
theorem lexP_go (s : ByteArray) (h : s.size ≤ 8192) : lexP s = lexGo s s.size 0 [] := by
 unfold lexP
 rw [if_neg (by omega), lexGo_all]
 simp [outL]
theorem ext_ext (s : ByteArray) (a i j : Nat) (h : a + j ≤ s.size) : (s.extract a s.size).extract i j = s.extract (a + i) (a + j) := by
 rw [ByteArray.extract_extract]
 congr 1
 omega
theorem plainTo_ext (s : ByteArray) (p : Nat) (hp : p ≤ s.size) : ∀ d j, p + j ≤ s.size → p + plainTo (s.extract p s.size) d j = plainTo s d (p + j)
 | 0, j, _ => rfl
 | d + 1, j, hj => by
  simp only [plainTo]
  have hsz : (s.extract p s.size).size = s.size - p := by rw [ByteArray.size_extract]; omega
  by_cases h : p + j < s.size
  ·have hb : bt (s.extract p s.size) (j : Int) = bt s ((p + j : Nat) : Int) := bt_extract s p s.size (Nat.le_refl _) j h
   rw [hb, hsz]
   by_cases hpl : plainP (bt s ((p + j : Nat) : Int)) = true
   ·rw [if_pos ⟨by omega, hpl⟩, if_pos ⟨h, hpl⟩]
    exact plainTo_ext s p hp d (j + 1) (by omega)
   ·rw [if_neg (fun h => hpl h.2), if_neg (fun h => hpl h.2)]
  ·rw [if_neg (fun h' => by omega), if_neg (fun h' => by omega)]
theorem plainTo_le (t : ByteArray) : ∀ d q, q ≤ plainTo t d q
 | 0, q => Nat.le_refl _
 | d + 1, q => by
  simp only [plainTo]
  split
  ·have := plainTo_le t d (q + 1); omega
  ·exact Nat.le_refl _
theorem plainTo_more (t : ByteArray) : ∀ d e q, t.size ≤ d + q → t.size ≤ e + q → plainTo t d q = plainTo t e q
 | 0, e, q, h, _ => by rw [plainTo_stop t e q (fun h' => by omega)]; rfl
 | d + 1, 0, q, _, h => by rw [plainTo_stop t (d + 1) q (fun h' => by omega)]; rfl
 | d + 1, e + 1, q, h, h' => by
  simp only [plainTo]
  split
  ·exact plainTo_more t d e (q + 1) (by omega) (by omega)
  ·rfl
theorem plainTo_out (t : ByteArray) : ∀ d p, t.size ≤ d + p → plainTo t d p < t.size → ¬ plainP (bt t ((plainTo t d p : Nat) : Int)) = true
 | 0, p, h, h2 => by simp only [plainTo] at h2; omega
 | d + 1, p, h, h2 => by
  simp only [plainTo] at h2 ⊢
  split at h2
  ·rename_i hc
   rw [if_pos hc]
   exact plainTo_out t d (p + 1) (by omega) h2
  ·rename_i hc
   rw [if_neg hc]
   exact fun e => hc ⟨h2, e⟩
def tEnd (s : ByteArray) (q : Nat) : Nat := plainTo s s.size q
theorem tEnd_step (s : ByteArray) (q : Nat) (h : q < s.size) (hp : plainP (bt s (q : Int)) = true) : tEnd s q = tEnd s (q + 1) := by
 unfold tEnd
 obtain ⟨n, hn⟩ : ∃ n, s.size = n + 1 := ⟨s.size - 1, by omega⟩
 have : plainTo s (n + 1) q = plainTo s n (q + 1) := by
  simp only [plainTo]; rw [if_pos ⟨h, hp⟩]
 rw [hn, this]
 exact plainTo_more s n (n + 1) (q + 1) (by omega) (by omega)
theorem tEnd_stop (s : ByteArray) (q : Nat) (h : ¬ (q < s.size ∧ plainP (bt s (q : Int)) = true)) : tEnd s q = q := plainTo_stop s _ q h
theorem tEnd_le (s : ByteArray) (q : Nat) (h : q ≤ s.size) : q ≤ tEnd s q ∧ tEnd s q ≤ s.size := ⟨plainTo_le s _ q, plainTo_size s _ q h⟩
theorem nextP_at (s : ByteArray) (p : Nat) (hp : p < s.size) :
  nextP (s.extract p s.size) p = if bt s (p : Int) = 123 then openP (s.extract p s.size) p else if bt s (p : Int) = 125 then ⟨⟨3, 0, ⟨#[]⟩, p⟩, 1, 0⟩
   else if tEnd s p = p then ⟨⟨0, 0, ⟨#[]⟩, 0⟩, 0, 3⟩ else ⟨⟨1, 0, s.extract p (tEnd s p), p⟩, ((tEnd s p - p : Nat) : Int), 0⟩ := by
 have hb : bt (s.extract p s.size) 0 = bt s (p : Int) := bt_extract s p s.size (Nat.le_refl _) 0 hp
 have hsz : (s.extract p s.size).size = s.size - p := by rw [ByteArray.size_extract]; omega
 have ht : p + plainTo (s.extract p s.size) (s.extract p s.size).size 0 = tEnd s p := by
  rw [plainTo_ext s p (by omega) _ 0 (by omega), hsz]
  exact plainTo_more s _ _ p (by omega) (by omega)
 have hle := tEnd_le s p (by omega)
 unfold nextP
 rw [hb]
 generalize plainTo (s.extract p s.size) (s.extract p s.size).size 0 = z at *
 split
 ·rfl
 ·split
  ·rfl
  ·by_cases hz : z = 0
   ·rw [if_pos hz, if_pos (by omega)]
   ·rw [if_neg hz, if_neg (by omega), ext_ext s p 0 z (by omega)]
    rw [show p + z = tEnd s p from ht, Nat.add_zero, show z = tEnd s p - p by omega]
theorem lexGo_step (s : ByteArray) (d at_ : Nat) (acc : List S47) (x : Spot) (hat : at_ < s.size) (hx : nextP (s.extract at_ s.size) at_ = x) (z : Nat) (h0 : x.e = 0) (hz : x.size = (z : Int)) :
  lexGo s (d + 1) at_ acc = lexGo s d (at_ + z) (acc ++ [x.l]) := by
 simp only [lexGo]
 rw [if_pos hat, hx, if_pos h0, hz, Int.toNat_natCast]
theorem lexGo_bad (s : ByteArray) (d at_ : Nat) (acc : List S47) (x : Spot) (hat : at_ < s.size) (hx : nextP (s.extract at_ s.size) at_ = x) (h0 : x.e ≠ 0) :
  lexGo s (d + 1) at_ acc = ([], (at_ : Int), x.e) := by
 simp only [lexGo]
 rw [if_pos hat, hx, if_neg h0]
theorem next_close (s : ByteArray) (p : Nat) (hp : p < s.size) (h : bt s (p : Int) = 125) : nextP (s.extract p s.size) p = ⟨⟨3, 0, ⟨#[]⟩, p⟩, 1, 0⟩ := by
 rw [nextP_at s p hp]
 have h1 : ¬ bt s (p : Int) = 123 := fun e => by rw [h] at e; exact absurd e (by decide)
 rw [if_neg h1, if_pos h]
theorem next_open (s : ByteArray) (p : Nat) (hp : p < s.size) (h : bt s (p : Int) = 123) : nextP (s.extract p s.size) p = openP (s.extract p s.size) p := by
 rw [nextP_at s p hp, if_pos h]
theorem next_text (s : ByteArray) (p : Nat) (hp : p < s.size) (h1 : bt s (p : Int) ≠ 123) (h2 : bt s (p : Int) ≠ 125) (h3 : plainP (bt s (p : Int)) = true) : p < tEnd s p ∧ nextP (s.extract p s.size) p = ⟨⟨1, 0, s.extract p (tEnd s p), p⟩, ((tEnd s p - p : Nat) : Int), 0⟩ := by
 have hst := tEnd_step s p hp h3
 have hle := tEnd_le s (p + 1) (by omega)
 have hlt : p < tEnd s p := by omega
 refine ⟨hlt, ?_⟩
 rw [nextP_at s p hp, if_neg h1, if_neg h2, if_neg (by omega)]
theorem next_bad (s : ByteArray) (p : Nat) (hp : p < s.size) (h1 : bt s (p : Int) ≠ 123) (h2 : bt s (p : Int) ≠ 125) (h3 : ¬ plainP (bt s (p : Int)) = true) : nextP (s.extract p s.size) p = ⟨⟨0, 0, ⟨#[]⟩, 0⟩, 0, 3⟩ := by
 rw [nextP_at s p hp, if_neg h1, if_neg h2, if_pos (tEnd_stop s p (fun h => h3 h.2))]
theorem openP_none (s : ByteArray) (p : Nat) (hn : openN (s.extract p s.size) = none) : openP (s.extract p s.size) p = ⟨⟨0, 0, ⟨#[]⟩, 0⟩, 0, 2⟩ := by
 unfold openP; rw [hn]
theorem allL_length (s : ByteArray) : ∀ d at_, (allL s d at_).length ≤ d
 | 0, _ => Nat.le_refl _
 | d + 1, at_ => by
  simp only [allL]
  split
  ·simp only [List.length_cons]
   split
   ·have := allL_length s d (at_ + (nextP (s.extract at_ s.size) at_).size.toNat); omega
   ·simp
  ·simp
theorem lexP_length (s : ByteArray) : (lexP s).1.length ≤ s.size := by
 unfold lexP
 split
 ·simp
 ·split
  ·simp only [lexes_length]; exact allL_length s s.size 0
  ·simp
theorem bt_app_left (A b : ByteArray) (j : Nat) (h : j < A.size) : bt (A ++ b) (j : Int) = bt A (j : Int) := by
 have h1 : (j : Int).toNat < (A ++ b).size := by rw [ByteArray.size_append, Int.toNat_natCast]; omega
 have h2 : (j : Int).toNat < A.size := by rw [Int.toNat_natCast]; exact h
 unfold bt
 rw [dif_pos h1, dif_pos h2]
 simp only [Int.toNat_natCast]
 rw [ByteArray.getElem_append_left h]
theorem bt_app_right (A b : ByteArray) (j : Nat) (h : j < b.size) : bt (A ++ b) ((A.size + j : Nat) : Int) = bt b (j : Int) := by
 have h1 : ((A.size + j : Nat) : Int).toNat < (A ++ b).size := by rw [ByteArray.size_append, Int.toNat_natCast]; omega
 have h2 : (j : Int).toNat < b.size := by rw [Int.toNat_natCast]; exact h
 unfold bt
 rw [dif_pos h1, dif_pos h2]
 simp only [Int.toNat_natCast]
 rw [ByteArray.getElem_append_right (Nat.le_add_right _ _)]
 simp only [Nat.add_sub_cancel_left]
theorem ext_app_right (A b : ByteArray) (p q : Nat) (h : q ≤ b.size) : (A ++ b).extract (A.size + p) (A.size + q) = b.extract p q := by
 have hs : (A ++ b).size = A.size + b.size := ByteArray.size_append
 apply byte_ext
 ·rw [ByteArray.size_extract, ByteArray.size_extract, hs]; omega
 ·intro j hj
  rw [ByteArray.size_extract, hs] at hj
  rw [bt_extract _ _ _ (by omega) j (by omega), bt_extract _ p q h j (by omega), show A.size + p + j = A.size + (p + j) by omega, bt_app_right A b _ (by omega)]
end Go.Proofs.Ythcmfjpheanphaa.Pure
namespace Go.Proofs.Ythcmfjpheanphaa.Pr
open Go.RowKit Go.Proofs.YthcmfjpheanphaaW.PrintWords
def parseP (s : ByteArray) : List S56 × Int × Int :=
 if (lexP s).2.2 ≠ 0 then ([], (lexP s).2.1, (lexP s).2.2)
 else if (runP bld0 (lexP s).1).2.2 ≠ 0 then ([], (runP bld0 (lexP s).1).2.1, (runP bld0 (lexP s).1).2.2)
 else if (runP bld0 (lexP s).1).1.row ≠ [] then ([], s.size, 2)
 else ((runP bld0 (lexP s).1).1.t, 0, 0)
end Go.Proofs.Ythcmfjpheanphaa.Pr
namespace Go.Proofs.Ythcmfjpheanphaa.Pr
open Go.RowKit Go.Proofs.Ythcmfjpheanphaa.Pure Go.Proofs.YthcmfjpheanphaaW.PrintWords
inductive Lx (s : ByteArray) : Nat → List S47 → Prop
 | done : Lx s s.size []
 | more (p : Nat) (x : Spot) (z : Nat) (l : List S47) (hp : p < s.size) (hx : nextP (s.extract p s.size) p = x) (h0 : x.e = 0) (hz : x.size = (z : Int)) (hl : Lx s (p + z) l) : Lx s p (x.l :: l)
theorem Lx_spot {s : ByteArray} {p : Nat} (hp : p < s.size) (h0 : (nextP (s.extract p s.size) p).e = 0) : ∃ z : Nat, (nextP (s.extract p s.size) p).size = z ∧ 1 ≤ z ∧ p + z ≤ s.size := by
 have hok := nextP_ok (s.extract p s.size) p (by rw [ByteArray.size_extract]; omega) h0
 rw [ByteArray.size_extract] at hok
 exact ⟨(nextP (s.extract p s.size) p).size.toNat, by omega, by omega, by omega⟩
theorem Lx_go (s : ByteArray) : ∀ (d p : Nat) (acc : List S47), s.size ≤ d + p → p ≤ s.size → (lexGo s d p acc).2.2 = 0 → ∃ l, (lexGo s d p acc).1 = acc ++ l ∧ Lx s p l
 | 0, p, acc, hd, hp, _ => by
  obtain rfl : p = s.size := by omega
  exact ⟨[], by simp [lexGo], .done⟩
 | d + 1, p, acc, hd, hp, h => by
  by_cases hlt : p < s.size
  ·by_cases h0 : (nextP (s.extract p s.size) p).e = 0
   ·obtain ⟨z, hz, h1, h2⟩ := Lx_spot hlt h0
    rw [lexGo_step s d p acc _ hlt rfl z h0 hz] at h ⊢
    obtain ⟨l, hl, hx⟩ := Lx_go s d (p + z) _ (by omega) h2 h
    exact ⟨_, by rw [hl, List.append_assoc]; rfl, .more p _ z l hlt rfl h0 hz hx⟩
   ·rw [lexGo_bad s d p acc _ hlt rfl h0] at h
    exact absurd h h0
  ·obtain rfl : p = s.size := by omega
   simp only [lexGo]
   rw [if_neg hlt]
   exact ⟨[], by simp, .done⟩
theorem lexP_Lx {s : ByteArray} (h : (lexP s).2.2 = 0) : Lx s 0 (lexP s).1 ∧ s.size ≤ 8192 := by
 by_cases hs : s.size ≤ 8192
 ·rw [lexP_go s hs] at h ⊢
  obtain ⟨l, hl, hx⟩ := Lx_go s s.size 0 [] (by omega) (by omega) h
  rw [hl]
  exact ⟨hx, hs⟩
 ·unfold lexP at h
  rw [if_pos (by omega)] at h
  cases h
def LexOk (N : Nat) (x : S47) : Prop := (x.f0 = 1 ∨ x.f0 = 2 ∨ x.f0 = 3) ∧ 0 ≤ x.f1 ∧ x.f1 ≤ 255 ∧ x.f2.size ≤ N ∧ 0 ≤ x.f3 ∧ x.f3 ≤ N
theorem letP_range : ∀ n ∈ namesL, 0 ≤ letP n ∧ letP n ≤ 255 := by decide +kernel
theorem openN_mem {s n : ByteArray} (h : openN s = some n) : n ∈ namesL := by
 unfold openN at h
 exact List.mem_of_find?_eq_some h
theorem Lx_ok {s : ByteArray} {p : Nat} {l : List S47} (h : Lx s p l) : ∀ x ∈ l, LexOk s.size x := by
 induction h with
 | done => exact fun x hx => by cases hx
 | more p x z l hp hx h0 hz hl ih =>
  intro y hy
  rcases List.mem_cons.1 hy with rfl | hy
  ·by_cases hc : bt s (p : Int) = 125
   ·rw [next_close s p hp hc] at hx
    subst hx
    exact ⟨.inr (.inr rfl), by show (0 : Int) ≤ 0; omega, by show (0 : Int) ≤ 255; omega, Nat.zero_le _, by show (0 : Int) ≤ (p : Int); omega, by show (p : Int) ≤ _; omega⟩
   ·by_cases h1 : bt s (p : Int) = 123
    ·rw [next_open s p hp h1] at hx
     cases ho : openN (s.extract p s.size) with
     | none => rw [openP_none s p ho] at hx; subst hx; cases h0
     | some n =>
      unfold openP at hx
      rw [ho] at hx
      subst hx
      have := letP_range n (openN_mem ho)
      exact ⟨.inr (.inl rfl), this.1, this.2, Nat.zero_le _, by show (0 : Int) ≤ (p : Int); omega, by show (p : Int) ≤ _; omega⟩
    ·by_cases h3 : plainP (bt s (p : Int)) = true
     ·rw [(next_text s p hp h1 hc h3).2] at hx
      subst hx
      exact ⟨.inl rfl, by show (0 : Int) ≤ 0; omega, by show (0 : Int) ≤ 255; omega, by show (s.extract p (tEnd s p)).size ≤ _; rw [ByteArray.size_extract]; omega, by show (0 : Int) ≤ (p : Int); omega, by show (p : Int) ≤ _; omega⟩
     ·rw [next_bad s p hp h1 hc h3] at hx
      subst hx; cases h0
  ·exact ih y hy
theorem lexP_ok (s : ByteArray) (h : (lexP s).2.2 = 0) : (∀ x ∈ (lexP s).1, LexOk 8192 x) ∧ (lexP s).1.length ≤ 8192 := by
 obtain ⟨h1, h2⟩ := lexP_Lx h
 refine ⟨fun x hx => ?_, Nat.le_trans (lexP_length s) h2⟩
 obtain ⟨k1, k2, k3, k4, k5, k6⟩ := Lx_ok h1 x hx
 exact ⟨k1, k2, k3, by omega, k5, by omega⟩
end Go.Proofs.Ythcmfjpheanphaa.Pr
namespace Go.Proofs.Ythcmfjpheanphaa.Pr
open Go.RowKit Go.Maps Go.Proofs.YthcmfjpheanphaaW.PrintWords
attribute [local go_sem] Oper.semAt_some
theorem flat56_at (xs : List S56) : ∀ (j : Nat) (p : S56), xs[j]? = some p → ((flat56 xs).drop (j * 4)).take 4 = [.int .u8 p.f0, .string p.f1, .int .i64 p.f2, .int .i64 p.f3] := by
 induction xs with
 | nil => intro j p h; simp at h
 | cons x xs ih =>
  intro j p h
  cases j with
  | zero => simp at h; subst h; simp [flat56]
  | succ j =>
   have := ih j p (by simpa using h)
   rw [Nat.succ_mul]
   simp only [flat56, List.flatMap_cons] at this ⊢
   rw [show ∀ l : List Value, (([.int .u8 x.f0, .string x.f1, .int .i64 x.f2, .int .i64 x.f3] : List Value) ++ l).drop (j * 4 + 4) = l.drop (j * 4) from fun l => rfl]
   exact this
theorem own_R56 {w : World} {base : Nat} {v : Value} {xs : List S56} (h : w.ownsRow base 56 4 v xs.length (flat56 xs)) (b' : Nat) (hb : b' ≤ base) : Kd.R k56 56 w b' (fun _ => True) v xs := by
 refine Kd.R_lower (base := base) ⟨fun _ _ => trivial, flat56 xs, h, flat56_length xs, fun j p hp => ?_⟩ hb
 have := flat56_at xs j p hp
 show k56.M _ _ _ _ (((flat56 xs).drop (j * 4)).take 4)
 rw [this]
 exact k56_mkM _ _ _ _
theorem R47_keep {w w1 : World} {base : Nat} {v : Value} {xs : List S47} (h : Kd.R k47 47 w base (fun _ => True) v xs) (hk : KeepK w w1) : Kd.R k47 47 w1 base (fun _ => True) v xs := by
 refine Kd.R_mono (Kd.R_move (Kd.R_bound h) fun k hk' => ?_) fun _ _ => trivial
 obtain ⟨_, _, _, q, hq, cells, hc⟩ := hk'
 have hq' : q = 47 := by
  have e : (k47.E : List Nat) = [] := rfl
  rw [e] at hq
  simpa using hq
 subst hq'
 rw [hc]
 exact hk _ _ hc rfl
def stepF (k : Int) : Nat := if k = 1 then 92 else if k = 2 then 93 else 94
theorem step_calls (B0 g m : Nat) (vr vt : Value) (s : Bld) (x : S47) (w : World) (hx : LexOk 1000000 x) (hB0 : B0 ≤ w.heap.size) (hn : s.row.length ≤ 999999) (hnt : s.t.length ≤ 999999) (hkb : KindsB s.row) (hpos : PosIn s) (hch : RChain s.row) (hb : BAt w B0 g m vr vt s) :
  Calls Try.prog (stepF x.f0) #[.pointer (some ⟨g, 0, none⟩), .agg #[.int .i64 x.f0, .int .u8 x.f1, .string x.f2, .int .i64 x.f3]] w fun e w' =>
   e = .returned (.tuple #[.int .i64 (stepP s x).2.1, .int .i64 (stepP s x).2.2]) ∧ StepTo B0 g m (stepP s x).1 w w' := by
 obtain ⟨h0, h1, h2, h3, _⟩ := hx
 unfold stepP stepF
 by_cases e1 : x.f0 = 1
 ·simp only [if_pos e1]
  exact texts_calls B0 g m vr vt s x w hB0 h3 hn hnt hkb hb
 ·simp only [if_neg e1]
  by_cases e2 : x.f0 = 2
  ·simp only [if_pos e2]
   exact opens_calls B0 g m vr vt s x w hB0 h1 h2 hn hnt hkb hb
  ·simp only [if_neg e2]
   exact shuts_calls B0 g m vr vt s x w hB0 hn hnt hkb hpos hch hb
structure BOk (s : Bld) (n : Nat) : Prop where
 row : s.row.length ≤ n
 t : s.t.length ≤ n
 kinds : KindsB s.row
 pos : PosIn s
 chain : RChain s.row
theorem kinds_modB {r : List Opn} (h : KindsB r) (f : Opn → Opn) (hf : ∀ o, (f o).kind = o.kind) (j : Nat) : KindsB (r.modify j f) := by
 intro o ho
 obtain ⟨y, hy, rfl | rfl⟩ := mem_modify ho
 ·exact h _ hy
 ·rw [hf]; exact h y hy
theorem kindsB_mark {r : List Opn} (h : KindsB r) (k : Int) : KindsB (markP r k) := by
 unfold markP
 split
 ·split
  ·exact kinds_modB h noteF (fun _ => rfl) _
  ·exact h
 ·split
  ·exact kinds_modB h pastF (fun _ => rfl) _
  ·exact h
theorem stepP_ok {s : Bld} {n : Nat} (h : BOk s n) {x : S47} (hx : LexOk 1000000 x) : BOk (stepP s x).1 (n + 1) := by
 obtain ⟨h1, h2, h3, h4, h5⟩ := h
 have hl : (stepP s x).1.row.length ≤ n + 1 ∧ (stepP s x).1.t.length ≤ n + 1 ∧ KindsB (stepP s x).1.row := by
  unfold stepP
  split
  ·unfold textsP
   split
   ·split
    ·exact ⟨by simp [kidP_length]; omega, by simp; omega, kinds_modB (kindsB_kid h3) (textF x.f2.size) (fun _ => rfl) _⟩
    ·exact ⟨by simp [kidP_length]; omega, by simp; omega, kindsB_kid h3⟩
   ·split <;> exact ⟨by show s.row.length ≤ _; omega, by show s.t.length ≤ _; omega, h3⟩
  ·split
   ·unfold opensP
    split
    ·refine ⟨by simp [kidP_length, markP_length]; omega, by simp; omega, fun o ho => ?_⟩
     simp only [List.mem_append, List.mem_singleton] at ho
     rcases ho with ho | rfl
     ·exact kindsB_kid (kindsB_mark h3 _) o ho
     ·exact ⟨hx.2.1, hx.2.2.1⟩
    ·exact ⟨by show s.row.length ≤ _; omega, by show s.t.length ≤ _; omega, h3⟩
   ·unfold shutsP
    split
    ·exact ⟨by show s.row.length ≤ _; omega, by show s.t.length ≤ _; omega, h3⟩
    ·have hd : KindsB s.row.dropLast := fun o ho => h3 o (List.dropLast_subset _ ho)
     have hwl : ∀ o, ((wholeP s.row.dropLast o).1).length = s.row.dropLast.length := fun o => by
      unfold wholeP
      split
      ·rfl
      ·split
       ·split
        ·split
         ·exact List.length_modify ..
         ·rfl
        ·rfl
       ·rfl
     refine ⟨by show ((wholeP s.row.dropLast _).1).length ≤ _; rw [hwl, List.length_dropLast]; omega, by simp; omega, ?_⟩
     show KindsB (wholeP s.row.dropLast (topP s.row)).1
     unfold wholeP
     split
     ·exact hd
     ·split
      ·split
       ·split
        ·exact kinds_modB hd (colsF (topP s.row).kids) (fun _ => rfl) _
        ·exact hd
       ·exact hd
      ·exact hd
 exact ⟨hl.1, hl.2.1, hl.2.2, stepP_pos s x h4, stepP_chain s x h5⟩
theorem bld0_ok : BOk bld0 0 := ⟨Nat.le_refl _, Nat.le_refl _, (by intro o ho; cases ho), (by intro o ho; cases ho), (by intro i hi; simp [bld0] at hi)⟩
theorem step_keep {B0 g m : Nat} {s : Bld} {W4 W : World} {b : Bool} (h : cond b (StepTo B0 g m s W4 W) (W = W4)) {i : Nat} {o : Obj} (ho : W4.heap[i]? = some o) (hn : isBT o = false) : W.heap[i]? = some o := by
 cases b
 ·obtain rfl : W = W4 := h
  exact ho
 ·obtain ⟨_, _, _, _, hk⟩ := (show StepTo B0 g m s W4 W from h)
  exact hk _ _ ho hn
def ParseTo (a0 : ByteArray) (w : World) (e : Ending) (w' : World) : Prop := ∃ v0_ : Value, e = .returned (.tuple #[v0_, .int .i64 (parseP a0).2.1, .int .i64 (parseP a0).2.2]) ∧ Kd.R k56 56 w' w.heap.size (fun _ => True) v0_ (parseP a0).1 ∧ Below w.heap.size w w'
theorem parse_bad {a0 : ByteArray} {l : List S47} {a e : Int} (h : lexP a0 = (l, a, e)) (he : e ≠ 0) : parseP a0 = ([], a, e) := by
 unfold parseP
 rw [h]
 simp only
 rw [if_pos he]
theorem parse_run {a0 : ByteArray} {l : List S47} {a : Int} (h : lexP a0 = (l, a, 0)) : parseP a0 = if (runP bld0 l).2.2 ≠ 0 then ([], (runP bld0 l).2.1, (runP bld0 l).2.2) else if (runP bld0 l).1.row ≠ [] then ([], a0.size, 2) else ((runP bld0 l).1.t, 0, 0) := by
 unfold parseP
 rw [h]
 simp only
 rw [if_neg (by decide)]
set_option pp.maxSteps 3000 in
set_option maxRecDepth 100000 in
set_option maxHeartbeats 8000000 in
theorem parse_calls (a0 : ByteArray) (w : World) (hs : a0.size ≤ 140737488351232) : Calls Try.prog 53 #[.string a0] w (ParseTo a0 w) := by
 obtain ⟨⟨l, a, e⟩, hl⟩ : ∃ r, lexP a0 = r := ⟨_, rfl⟩
 have hlex := fun W => lex_Of.calls a0 l a e W (by unfold lex_Of.f; rw [hl])
 have HL := Lib.hid hlex
 have HLP := Lib.hid hl
 clear hlex hl
 by_cases he : e = 0
 ·subst he
  have hP := parse_run HLP.out
  have HP := Lib.hid hP
  obtain ⟨hok, hlen⟩ := lexP_ok a0 (by rw [HLP.out])
  rw [HLP.out] at hok hlen
  simp only at hok hlen
  have HOK := Lib.hid (fun x hx => show LexOk 1000000 x from by
   obtain ⟨k1, k2, k3, k4, k5, k6⟩ := hok x hx
   exact ⟨k1, k2, k3, by omega, k5, by omega⟩)
  clear hP hok
  go_enter Try.func53, Try.ntmps53
  go_wp2_with fail
  refine (HL.out _).mono ?_
  rintro e w1 ⟨v, rfl, hR, hb1⟩
  obtain ⟨A, c, rfl, hc, hC⟩ := Kd.R_reads hR
  have HR := Lib.hid hR
  have HB1 := Lib.hid hb1
  clear hR hb1 hC
  go_wp2_with fail
  refine (begin_calls w1).mono ?_
  rintro e w2 ⟨g, m, rfl, hb, hb2⟩
  have HB := Lib.hid hb
  have HB2 := Lib.hid hb2
  clear hb hb2
  go_wp2_with fail
  have hW3 : Below w2.heap.size w2 (w2.alloc (.cells #[.nilFunc, .func (.func 92) #[.pointer (some ⟨g, 0, none⟩)] #[], .func (.func 93) #[.pointer (some ⟨g, 0, none⟩)] #[], .func (.func 94) #[.pointer (some ⟨g, 0, none⟩)] #[]] 98)) := (Below.refl _ _).alloc (Nat.le_refl _) _
  have hS3 := blk_new w2 (.cells #[.nilFunc, .func (.func 92) #[.pointer (some ⟨g, 0, none⟩)] #[], .func (.func 93) #[.pointer (some ⟨g, 0, none⟩)] #[], .func (.func 94) #[.pointer (some ⟨g, 0, none⟩)] #[]] 98)
  obtain ⟨W3, hW3'⟩ : ∃ W3, w2.alloc (.cells #[.nilFunc, .func (.func 92) #[.pointer (some ⟨g, 0, none⟩)] #[], .func (.func 93) #[.pointer (some ⟨g, 0, none⟩)] #[], .func (.func 94) #[.pointer (some ⟨g, 0, none⟩)] #[]] 98) = W3 := ⟨_, rfl⟩
  rw [hW3'] at hW3 hS3 ⊢
  clear hW3'
  have HB3 := Lib.hid (HB.out.below hW3)
  have HS3 := Lib.hid hS3
  have HR3 := Lib.hid (R47_keep HR.out (KeepK.below (HB2.out.trans (hW3.mono HB2.out.size))))
  have HL3 := Lib.hid (HB1.out.trans ((HB2.out.trans (hW3.mono HB2.out.size)).mono HB1.out.size))
  have hz3 : w1.heap.size ≤ W3.heap.size := Nat.le_trans HB2.out.size hW3.size
  have HZ3 := Lib.hid hz3
  have HZ1 := Lib.hid HB1.out.size
  clear hW3 hS3 HR HB1 HB2 HB
  go_loopw [32] (fun v wr => ∃ (k : Nat) (s : Bld) (vr vt : Value), k ≤ l.length ∧ v = .int .i64 k ∧ BAt wr w1.heap.size g m vr vt s ∧ BOk s k ∧ Below w1.heap.size W3 wr ∧ KeepK W3 wr ∧ runP bld0 l = runP s (l.drop k)) (fun v _ => l.length - (intOf v).toNat)
  case atStart => exact ⟨0, bld0, _, _, Nat.zero_le _, rfl, HB3.out, bld0_ok, Below.refl _ _, KeepK.refl _, rfl⟩
  case round =>
   obtain ⟨k, s, vr, vt, hk, rfl, hb, hbk, hlow, hkeep, hrun⟩ := hrel
   have HBA := Lib.hid hb
   have HBK := Lib.hid hbk
   have HLO := Lib.hid hlow
   have HKE := Lib.hid hkeep
   have HRU := Lib.hid hrun
   clear hb hbk hlow hkeep hrun
   by_cases hlt : k < l.length
   ·have hlt1 : (k : Int) < (l.length : Int) := by omega
    have hRw := R47_keep HR3.out HKE.out
    obtain ⟨A', c', he', _, hC⟩ := Kd.R_reads hRw
    simp only [Value.slice.injEq] at he'
    obtain ⟨rfl, -, rfl⟩ := he'
    obtain ⟨ad, e1, q0, q1, q2, q3⟩ := at_T47 hC k (by omega) (by omega)
    subst e1
    simp only [Int.toNat_natCast] at q0 q1 q2 q3
    have hxl : l[k]? = some (rd_T47 l k) := by
     unfold rd_T47
     rw [Int.toNat_natCast, List.getD_eq_getElem?_getD, List.getElem?_eq_getElem hlt]
     rfl
    have hxok := HOK.out _ (List.mem_of_getElem? hxl)
    have hdrop : l.drop k = rd_T47 l k :: l.drop (k + 1) := by
     rw [List.drop_eq_getElem_cons hlt]
     rw [List.getElem?_eq_getElem hlt] at hxl
     rw [Option.some.inj hxl]
    have hst := HRU.out
    rw [hdrop] at hst
    have hst2 : runP bld0 l = if (stepP s (rd_T47 l k)).2.2 = 0 then runP (stepP s (rd_T47 l k)).1 (l.drop (k + 1)) else stepP s (rd_T47 l k) := hst
    clear hst hdrop hxl hRw hC
    generalize rd_T47 l k = x at *
    have hstep := fun W (hW : BAt W w1.heap.size g m vr vt s) (hz : w1.heap.size ≤ W.heap.size) => step_calls w1.heap.size g m vr vt s x W hxok hz (by have := HBK.out.row; omega) (by have := HBK.out.t; omega) HBK.out.kinds HBK.out.pos HBK.out.chain hW
    have hok2 := stepP_ok HBK.out hxok
    have hf := hxok.1
    obtain ⟨f0, f1, f2, f3⟩ := x
    simp only at hstep q0 q1 q2 q3 hf
    obtain ⟨⟨s', ra, re⟩, hR⟩ : ∃ r, stepP s ⟨f0, f1, f2, f3⟩ = r := ⟨_, rfl⟩
    simp only [hR] at hstep hst2 hok2
    have HST := Lib.hid hstep
    have HS2 := Lib.hid hst2
    have HOK2 := Lib.hid hok2
    clear hstep hst2 hR hok2 hxok
    obtain ⟨W4, hW4⟩ : ∃ W4, (wr.alloc (.cells #[.int .i64 f0, .int .u8 f1, .string f2, .int .i64 f3] 47)).drew = W4 := ⟨_, rfl⟩
    have hb4 : Below wr.heap.size wr W4 := by rw [← hW4]; exact below_drew1 ((Below.refl _ _).alloc (Nat.le_refl _) _)
    have hX4 : W4.heap[wr.heap.size]? = some (.cells #[.int .i64 f0, .int .u8 f1, .string f2, .int .i64 f3] 47 (0, 0)) := by rw [← hW4]; exact blk_new wr _
    have hS4 : W4.heap[w2.heap.size]? = _ := blk_below (HKE.out _ _ HS3.out rfl) hb4
    have HX4 := Lib.hid hX4
    have HS4 := Lib.hid hS4
    have HB4 := Lib.hid hb4
    clear hX4 hS4 hb4
    rcases hf with rfl | rfl | rfl
    all_goals
     go_wp2
     refine Go.Mix.region_mix' (fun b W => cond b (StepTo w1.heap.size g m s' W4 W) (W = W4)) 5 11 [] (by kernel_rfl) (by kernel_rfl) (fun _ _ _ _ _ h => h) hW4 ?_
     clear hW4 q0 q1 q2 q3
     refine Go.Mix.seqE_nil ?_
     repeat
      apply Go.Mix.seqM_cons (by rfl) (by rfl)
      focus
       intro b W hS
       have hX : W.heap[wr.heap.size]? = _ := step_keep hS HX4.out rfl
       have hZ : W.heap[w2.heap.size]? = _ := step_keep hS HS4.out rfl
       have x0 := blk_cell hX 0
       have x1 := blk_cell hX 1
       have x2 := blk_cell hX 2
       have x3 := blk_cell hX 3
       have s1 := blk_cell hZ 1
       have s2 := blk_cell hZ 2
       have s3 := blk_cell hZ 3
       simp only [List.getElem?_toArray, List.getElem?_cons_succ, List.getElem?_cons_zero] at x0 x1 x2 x3 s1 s2 s3
       have HS := Lib.hid hS
       clear hS hX hZ
       go_wp2
       exact Go.Det.AtEnd.mk HS.out
     apply Go.Mix.seqM_main (by rfl)
     focus
      intro W hS
      obtain rfl : W = W4 := hS
      go_wp2_with fail
      refine (HST.out W (HBA.out.below HB4.out) (Nat.le_trans (Nat.le_trans HZ3.out HLO.out.size) HB4.out.size)).mono ?_
      rintro e W5 ⟨rfl, hst⟩
      have HSTT := Lib.hid hst
      clear hst
      go_wp2
      exact Go.Det.AtEnd.mk HSTT.out
     repeat
      apply Go.Mix.seqM_cons (by rfl) (by rfl)
      focus
       intro b W hS
       have HS := Lib.hid hS
       clear hS
       go_wp2
       exact Go.Det.AtEnd.mk HS.out
     refine Go.Mix.seqM_nil ?_
     intro W5 hW5
     obtain ⟨vr5, vt5, hb5, hl5, hk5⟩ := (show StepTo w1.heap.size g m s' W4 W5 from hW5)
     clear hW5
     simp only [List.drop_succ_cons, List.drop_zero, Exit.then]
     have HB5 := Lib.hid hb5
     have HL5 := Lib.hid ((HLO.out.trans (below_low HB4.out (Nat.le_trans HZ3.out HLO.out.size))).trans hl5)
     have HK5 := Lib.hid ((HKE.out.trans (KeepK.below HB4.out)).trans hk5)
     clear hb5 hl5 hk5
     by_cases hre : re = 0
     ·have hreb : (re != 0) = false := by rw [hre]; rfl
      have HRE := Lib.hid hre
      clear hre
      go_wp2
      go_roundw
      case rel => exact ⟨k + 1, s', vr5, vt5, by omega, by go_num, HB5.out, HOK2.out, HL5.out, HK5.out, by rw [HS2.out, if_pos HRE.out]⟩
      case measure => simp [intOf]; omega
     ·have hreb : (re != 0) = true := bne_iff_ne.2 hre
      have hPP : parseP a0 = ([], ra, re) := by
       rw [HP.out, HS2.out, if_neg hre]
       simp only
       rw [if_pos hre]
      have HPP := Lib.hid hPP
      have HRE := Lib.hid hre
      clear hre hPP
      go_wp2
      go_ret3
      refine ⟨_, by rw [HPP.out]; rfl, by rw [HPP.out]; exact Kd.R_nil _ _ _ _ _, ?_⟩
      exact HL3.out.trans (HL5.out.mono HZ1.out)
   ·obtain rfl : k = l.length := by omega
    have hlt1 : ¬ (l.length : Int) < (l.length : Int) := by omega
    have hend : runP bld0 l = (s, 0, 0) := by rw [HRU.out, List.drop_length]; rfl
    have hPP : parseP a0 = if s.row ≠ [] then ([], (a0.size : Int), 2) else (s.t, 0, 0) := by rw [HP.out, hend]; rfl
    obtain ⟨Ar, cr, rfl⟩ := own_slice HBA.out.row
    obtain ⟨At, ct, rfl⟩ := own_slice HBA.out.t
    have d0 := blk_cell HBA.out.blk 0
    have d1 := blk_cell HBA.out.blk 1
    simp only [List.getElem?_toArray, List.getElem?_cons_succ, List.getElem?_cons_zero] at d0 d1
    by_cases h0 : s.row = []
    ·have h00 : s.row.length = 0 := by rw [h0]; rfl
     have hPP2 : parseP a0 = (s.t, 0, 0) := by rw [hPP, if_neg (by simpa using h0)]
     have HPP := Lib.hid hPP2
     rw [h00] at d0
     clear hPP hPP2 h0 h00 hend
     go_wp2
     go_ret3
     refine ⟨_, by rw [HPP.out]; rfl, ?_, HL3.out.trans (HLO.out.mono HZ1.out)⟩
     rw [HPP.out]
     exact own_R56 HBA.out.t _ HZ1.out
    ·have hp : (0 : Int) < (s.row.length : Int) := by have := List.length_pos_iff.2 h0; omega
     have hPP2 : parseP a0 = ([], (a0.size : Int), 2) := by rw [hPP, if_pos h0]
     have HPP := Lib.hid hPP2
     clear hPP hPP2 h0 hend
     go_wp2
     go_ret3
     refine ⟨_, by rw [HPP.out]; rfl, by rw [HPP.out]; exact Kd.R_nil _ _ _ _ _, HL3.out.trans (HLO.out.mono HZ1.out)⟩
 ·have heb : (e != 0) = true := bne_iff_ne.2 he
  have HPP := Lib.hid (parse_bad HLP.out he)
  clear he
  go_enter Try.func53, Try.ntmps53
  go_wp2_with fail
  refine (HL.out _).mono ?_
  rintro e' w1 ⟨v, rfl, hR, hb1⟩
  have HB1 := Lib.hid hb1
  clear hR hb1
  go_wp2
  go_ret3
  exact ⟨_, by rw [HPP.out]; rfl, by rw [HPP.out]; exact Kd.R_nil _ _ _ _ _, HB1.out⟩
def tree_Parse.f (a0 : ByteArray) : Option (List S56 × Int × Int) := if a0.size ≤ 140737488351232 then some (parseP a0) else none
theorem tree_Parse.calls (a0 : ByteArray) (r1 : List S56) (r2 r3 : Int) (w : World) (h : tree_Parse.f a0 = some (r1, r2, r3)) :
  Calls Try.prog 53 #[.string a0] w fun e w' => ∃ v0_ : Value, e = .returned (.tuple #[v0_, .int .i64 r2, .int .i64 r3]) ∧ Kd.R k56 56 w' w.heap.size (fun _ => True) v0_ r1 ∧ Below w.heap.size w w' := by
 unfold tree_Parse.f at h
 by_cases hs : a0.size ≤ 140737488351232
 ·rw [if_pos hs] at h
  have h1 : parseP a0 = (r1, r2, r3) := Option.some.inj h
  refine (parse_calls a0 w hs).mono ?_
  rintro e w' ⟨v, he, hR, hb⟩
  rw [h1] at he hR
  exact ⟨v, he, hR, hb⟩
 ·rw [if_neg hs] at h
  cases h
theorem parse_R (a0 : ByteArray) (w : World) (hs : a0.size ≤ 140737488351232) {t : List S56} {a e : Int} (h : parseP a0 = (t, a, e)) : Calls Try.prog 53 #[.string a0] w fun e' w' => ∃ v0_ : Value, e' = .returned (.tuple #[v0_, .int .i64 a, .int .i64 e]) ∧ Kd.R k56 56 w' w.heap.size (fun _ => True) v0_ t ∧ Below w.heap.size w w' :=
 tree_Parse.calls a0 t a e w (by unfold tree_Parse.f; rw [if_pos hs, h])
def kindsB (s want sizes : ByteArray) : Bool :=
 (parseP s).2.2 == 0 && (parseP s).2.1 == 0 && (parseP s).1.length == want.size && want.size == sizes.size &&
  (List.range want.size).all fun k => (rd_T56 (parseP s).1 k).f0 == bt want k && (rd_T56 (parseP s).1 k).f3 == bt sizes k - 48 && decide (48 ≤ bt sizes k) && decide (bt sizes k ≤ 57)
def wrongB (s : ByteArray) (a : Int) : Bool := (parseP s).1.length == 0 && (parseP s).2.1 == a && (parseP s).2.2 == 2
set_option pp.maxSteps 3000 in
set_option maxRecDepth 100000 in
set_option maxHeartbeats 4000000 in
theorem kinds_calls (s want sizes : ByteArray) (w : World) (hs : s.size ≤ 8192) (hw : want.size ≤ 8192) (h : kindsB s want sizes = true) :
  Calls Try.prog 89 #[.string s, .string want, .string sizes] w fun e w' => e = .returned (.bool true) ∧ Below w.heap.size w w' := by
 unfold kindsB at h
 obtain ⟨⟨t, a, e⟩, ht⟩ : ∃ r, parseP s = r := ⟨_, rfl⟩
 rw [ht] at h
 simp only [Bool.and_eq_true, beq_iff_eq, List.all_eq_true, List.mem_range, decide_eq_true_eq] at h
 obtain ⟨⟨⟨⟨rfl, rfl⟩, hl⟩, hz⟩, hall⟩ := h
 have HP := Lib.hid (fun W => parse_R s W (by omega) ht)
 have HALL := Lib.hid hall
 have HZ := Lib.hid hz
 obtain ⟨n, hn⟩ : ∃ n, t.length = n := ⟨_, rfl⟩
 have hnw : n = want.size := by omega
 have HN := Lib.hid hn
 have HNW := Lib.hid hnw
 have hn8 : n ≤ 8192 := by omega
 clear ht hall hl hz hn hnw
 go_enter Try.func89, Try.ntmps89
 go_wp2_with fail
 refine (HP.out _).mono ?_
 rintro e w1 ⟨v, rfl, hR, hb1⟩
 obtain ⟨A, c, rfl, hc, hC⟩ := Kd.R_reads hR
 rw [HN.out] at hC ⊢
 have HC := Lib.hid hC
 have HB1 := Lib.hid hb1
 have hne : ((n : Int) != (want.size : Int)) = false := by rw [← HNW.out]; simp
 clear hR hC hb1
 go_wp2
 go_loopw [10] (fun v wr => ∃ k : Nat, k ≤ n ∧ v = .int .i64 k ∧ Below w1.heap.size w1 wr) (fun v _ => n - (intOf v).toNat)
 case atStart => exact ⟨0, Nat.zero_le _, rfl, Below.refl _ _⟩
 case round =>
  obtain ⟨k, hk, rfl, hW⟩ := hrel
  by_cases hlt : k < n
  ·have hlt1 : (k : Int) < (n : Int) := by omega
   have hkw : k < want.size := by have := HNW.out; omega
   have hkz : k < sizes.size := by have := HNW.out; have := HZ.out; omega
   have hkw1 : (k : Int) < (want.size : Int) := by omega
   have hkz1 : (k : Int) < (sizes.size : Int) := by omega
   obtain ⟨⟨⟨g1, g2⟩, g3⟩, g4⟩ := HALL.out k hkw
   obtain ⟨W2, hW2⟩ : ∃ W2, wr.drew = W2 := ⟨_, rfl⟩
   have hb2 : Below w1.heap.size w1 W2 := by rw [← hW2]; exact below_drew1 hW
   obtain ⟨ad, e1, q0, q1, q2, q3⟩ := at_T56 (Kd.C_below HC.out hb2) k (by omega) (by omega)
   subst e1
   simp only [Int.toNat_natCast] at q0 q1 q2 q3
   rw [g1] at q0
   rw [g2] at q3
   have b1 := bt_at want k (by simp; omega)
   have b2 := bt_at sizes k (by simp; omega)
   simp only [Int.toNat_natCast] at b1 b2
   generalize bt want k = x at *
   generalize bt sizes k = y at *
   have hxx : (x != x) = false := by simp
   have hyy : (y - 48 != y - 48) = false := by simp
   have HQ := Lib.hid (And.intro q0 (And.intro q3 (And.intro b1 b2)))
   have HB2 := Lib.hid hb2
   clear q0 q1 q2 q3 b1 b2 hW g1 g2 hb2
   go_wp2
   refine Go.Det.region_all (fun W => W = W2) (by kernel_rfl) (by kernel_rfl) hW2 ?_
   clear hW2
   repeat
    apply Go.Det.seqW_cons
    focus
     intro W hS
     obtain rfl : W = W2 := hS
     obtain ⟨q0, q3, b1, b2⟩ := HQ.out
     go_wp2
     exact Go.Det.AtEnd.mk rfl
   refine Go.Det.seqW_nil ?_
   intro W hS
   obtain rfl : W = W2 := hS
   simp only [Exit.then]
   go_wp2
   go_roundw
   case rel => exact ⟨k + 1, by omega, by go_num, HB2.out⟩
   case measure => simp [intOf]; omega
  ·obtain rfl : k = n := by omega
   have hlt1 : ¬ (k : Int) < (k : Int) := by omega
   go_wp2
   go_ret
   exact ⟨rfl, HB1.out.trans (hW.mono HB1.out.size)⟩
set_option maxRecDepth 100000 in
set_option maxHeartbeats 4000000 in
theorem wrong_calls (s : ByteArray) (a : Int) (w : World) (hs : s.size ≤ 8192) (h : wrongB s a = true) :
  Calls Try.prog 90 #[.string s, .int .i64 a] w fun e w' => e = .returned (.bool true) ∧ Below w.heap.size w w' := by
 unfold wrongB at h
 obtain ⟨⟨t, a', e⟩, ht⟩ : ∃ r, parseP s = r := ⟨_, rfl⟩
 rw [ht] at h
 simp only [Bool.and_eq_true, beq_iff_eq] at h
 obtain ⟨⟨hl, rfl⟩, rfl⟩ := h
 have HP := Lib.hid (fun W => parse_R s W (by omega) ht)
 have HL := Lib.hid hl
 clear ht hl
 go_enter Try.func90, Try.ntmps90
 go_wp2_with fail
 refine (HP.out _).mono ?_
 rintro e w1 ⟨v, rfl, hR, hb1⟩
 obtain ⟨A, c, rfl, hc, hC⟩ := Kd.R_reads hR
 rw [HL.out]
 have HB1 := Lib.hid hb1
 have haa : (a' == a') = true := by simp
 clear hR hC hb1
 go_wp2
 go_ret
 exact ⟨rfl, HB1.out⟩
theorem aw1 : kindsB ⟨#[123, 112, 32, 97, 123, 101, 32, 98, 125, 125]⟩ ⟨#[112, 46, 101, 46]⟩ ⟨#[52, 49, 50, 49]⟩ = true := by decide +kernel
theorem aw2 : kindsB ⟨#[123, 108, 123, 105, 32, 97, 123, 108, 123, 105, 32, 98, 125, 125, 125, 125]⟩ ⟨#[108, 105, 46, 108, 105, 46]⟩ ⟨#[54, 53, 49, 51, 50, 49]⟩ = true := by decide +kernel
theorem aw3 : kindsB ⟨#[123, 107, 125, 32, 123, 112, 125]⟩ ⟨#[107, 112]⟩ ⟨#[49, 49]⟩ = true := by decide +kernel
theorem aw4 : wrongB ⟨#[120]⟩ 0 = true := by decide +kernel
theorem aw5 : wrongB ⟨#[123, 112]⟩ 2 = true := by decide +kernel
theorem aw6 : wrongB ⟨#[125]⟩ 0 = true := by decide +kernel
theorem aw7 : wrongB ⟨#[123, 108, 125]⟩ 2 = true := by decide +kernel
theorem aw8 : wrongB ⟨#[123, 116, 123, 114, 123, 99, 32, 97, 125, 123, 99, 32, 98, 125, 125, 123, 114, 123, 99, 32, 99, 125, 125, 125]⟩ 22 = true := by decide +kernel
theorem aw9 : wrongB ⟨#[123, 112, 123, 101, 123, 115, 123, 101, 32, 97, 125, 125, 125, 125]⟩ 6 = true := by decide +kernel
set_option maxRecDepth 100000 in
set_option maxHeartbeats 4000000 in
theorem awake04_calls (w : World) : Calls Try.prog 52 #[] w fun e w' => e = .returned (.bool true) ∧ Below w.heap.size w w' := by
 have HB := Lib.hid (Below.refl w.heap.size w)
 go_enter Try.func52, Try.ntmps52
 go_wp2_with fail
 refine (kinds_calls _ _ _ _ (by decide) (by decide) aw1).mono ?_
 rintro e w1 ⟨rfl, hb⟩
 replace HB := Lib.hid (HB.out.trans (hb.mono HB.out.size))
 clear hb
 go_wp2_with fail
 refine (kinds_calls _ _ _ _ (by decide) (by decide) aw2).mono ?_
 rintro e w2 ⟨rfl, hb⟩
 replace HB := Lib.hid (HB.out.trans (hb.mono HB.out.size))
 clear hb
 go_wp2_with fail
 refine (kinds_calls _ _ _ _ (by decide) (by decide) aw3).mono ?_
 rintro e w3 ⟨rfl, hb⟩
 replace HB := Lib.hid (HB.out.trans (hb.mono HB.out.size))
 clear hb
 go_wp2_with fail
 refine (wrong_calls _ _ _ (by decide) aw4).mono ?_
 rintro e w4 ⟨rfl, hb⟩
 replace HB := Lib.hid (HB.out.trans (hb.mono HB.out.size))
 clear hb
 go_wp2_with fail
 refine (wrong_calls _ _ _ (by decide) aw5).mono ?_
 rintro e w5 ⟨rfl, hb⟩
 replace HB := Lib.hid (HB.out.trans (hb.mono HB.out.size))
 clear hb
 go_wp2_with fail
 refine (wrong_calls _ _ _ (by decide) aw6).mono ?_
 rintro e w6 ⟨rfl, hb⟩
 replace HB := Lib.hid (HB.out.trans (hb.mono HB.out.size))
 clear hb
 go_wp2_with fail
 refine (wrong_calls _ _ _ (by decide) aw7).mono ?_
 rintro e w7 ⟨rfl, hb⟩
 replace HB := Lib.hid (HB.out.trans (hb.mono HB.out.size))
 clear hb
 go_wp2_with fail
 refine (wrong_calls _ _ _ (by decide) aw8).mono ?_
 rintro e w8 ⟨rfl, hb⟩
 replace HB := Lib.hid (HB.out.trans (hb.mono HB.out.size))
 clear hb
 go_wp2_with fail
 refine (wrong_calls _ _ _ (by decide) aw9).mono ?_
 rintro e w9 ⟨rfl, hb⟩
 replace HB := Lib.hid (HB.out.trans (hb.mono HB.out.size))
 clear hb
 go_wp2
 go_ret
 exact ⟨rfl, HB.out⟩
end Go.Proofs.Ythcmfjpheanphaa.Pr
namespace Go.Proofs.Ythcmfjpheanphaa.Pr
open Go.RowKit Go.Proofs.YthcmfjpheanphaaW.PrintWords
attribute [local go_sem] Oper.semAt_some
def oddR (r : Int) : Bool := decide (127 < r) || !plainP r
theorem decode_low (s : ByteArray) (i : Nat) (hi : i < s.size) (h : bt s (i : Int) < 128) : Utf8.decode s i = ((bt s (i : Int)).toNat, 1) := by
 have hb : bt s (i : Int) = ((s.get! i).toNat : Int) := by
  unfold bt
  rw [dif_pos (by simpa using hi)]
  congr 2
  simp only [Int.toNat_natCast]
  exact (getElem!_pos s.data i hi).symm
 rw [Lib.decode_at]
 unfold Lib.decodeN
 rw [if_pos (by omega), hb, Int.toNat_natCast]
theorem decode_high (s : ByteArray) (i : Nat) (hi : i < s.size) (h : ¬ bt s (i : Int) < 128) : 128 ≤ (Utf8.decode s i).1 := by
 have hb : bt s (i : Int) = ((s.get! i).toNat : Int) := by
  unfold bt
  rw [dif_pos (by simpa using hi)]
  congr 2
  simp only [Int.toNat_natCast]
  exact (getElem!_pos s.data i hi).symm
 have h255 : (s.get! i).toNat < 256 := UInt8.toNat_lt _
 rw [Lib.decode_at]
 unfold Lib.decodeN
 repeat' split
 all_goals (simp only; omega)
set_option maxRecDepth 100000 in
set_option maxHeartbeats 4000000 in
theorem odd_calls (r : Int) (h0 : 0 ≤ r) (w : World) : Calls Try.prog 142 #[.int .i32 r] w fun e w' => e = .returned (.bool (oddR r)) ∧ Below w.heap.size w w' := by
 by_cases h1 : 127 < r
 ·have ho : oddR r = true := by unfold oddR; rw [decide_eq_true h1]; rfl
  rw [ho]
  go_enter Try.func142, Try.ntmps142
  go_wp2
  go_ret
  exact ⟨rfl, Below.refl _ _⟩
 ·have h2 : r ≤ 127 := by omega
  have hi := (white_at r h0 (by omega)).2
  have hw := fun w => white_calls r h0 (by omega) w
  have ho : oddR r = !plainP r := by unfold oddR; rw [decide_eq_false h1]; rfl
  rw [ho]
  unfold plainP
  generalize (!(classP r == 0) && !(classP r == 6)) = b1 at *
  generalize whiteP r = b2 at *
  have HI := Lib.hid hi
  have HW := Lib.hid hw
  clear hi hw ho
  cases b1
  ·go_enter Try.func142, Try.ntmps142
   go_wp2_with (first | (go_at_call 33; refine (chars_Is.calls r _ _ HI.out).mono ?_; rintro e w1 ⟨rfl, hb⟩) | (go_at_call 35; refine (HW.out _).mono ?_; rintro e w2 ⟨rfl, hb2⟩))
   go_ret
   exact ⟨by simp, hb.trans (hb2.mono hb.size)⟩
  ·go_enter Try.func142, Try.ntmps142
   go_wp2_with (first | (go_at_call 33; refine (chars_Is.calls r _ _ HI.out).mono ?_; rintro e w1 ⟨rfl, hb⟩) | (go_at_call 35; refine (HW.out _).mono ?_; rintro e w2 ⟨rfl, hb2⟩))
   go_ret
   exact ⟨by simp, hb⟩
theorem plain_low_fin : ∀ n : Fin 256, plainP (n.val : Int) = true → (n.val : Int) < 128 := by decide +kernel
theorem plain_low (c : Int) (h0 : 0 ≤ c) (h1 : c ≤ 255) (h : plainP c = true) : c < 128 := by
 have := plain_low_fin ⟨c.toNat, by omega⟩
 simp only [Int.toNat_of_nonneg h0] at this
 exact this h
def firstOdd (s : ByteArray) : Int := if plainTo s s.size 0 < s.size then (plainTo s s.size 0 : Nat) else -1
theorem plainTo_on (s : ByteArray) (p : Nat) (h : p < s.size) : plainTo s (s.size - p) p = if plainP (bt s (p : Int)) = true then plainTo s (s.size - (p + 1)) (p + 1) else p := by
 rw [show s.size - p = (s.size - (p + 1)) + 1 from by omega]
 simp only [plainTo]
 by_cases hp : plainP (bt s (p : Int)) = true
 ·rw [if_pos ⟨h, hp⟩, if_pos hp]
 ·rw [if_neg (fun hh => hp hh.2), if_neg hp]
set_option maxRecDepth 100000 in
set_option maxHeartbeats 4000000 in
theorem indexOdd_calls (s : ByteArray) (w : World) (hs : s.size ≤ 140737488351232) :
  Calls Try.prog 170 #[.string s, .func (.func 142) #[] #[], .bool true] w fun e w' => e = .returned (.int .i64 (firstOdd s)) ∧ Below w.heap.size w w' := by
 obtain ⟨R0, hR0⟩ : ∃ R, plainTo s s.size 0 = R := ⟨_, rfl⟩
 have hF : firstOdd s = if R0 < s.size then (R0 : Int) else -1 := by unfold firstOdd; rw [hR0]
 rw [hF]
 have HR := Lib.hid hR0
 obtain ⟨F0, hF0⟩ : ∃ F, (if R0 < s.size then (R0 : Int) else -1) = F := ⟨_, rfl⟩
 rw [hF0]
 have HF := Lib.hid hF0
 clear hR0 hF hF0
 go_enter Try.func170, Try.ntmps170
 go_wp2
 go_loopg [] s.size (fun gf wx => ∃ pos : Nat, wx.heap[w.heap.size]? = some (.stringIter s pos) ∧ Below w.heap.size w wx ∧ plainTo s (s.size - pos) pos = R0 ∧ pos ≤ s.size ∧ s.size ≤ pos + gf)
 case atStart => exact ⟨0, World.iter_heap w s 0, (Below.refl _ w).alloc (Nat.le_refl _) _, HR.out, Nat.zero_le _, by omega⟩
 case round =>
  obtain ⟨pos, hit, hbw, hpl, hps0, hfu⟩ := hrel
  by_cases hps : pos < s.size
  ·obtain ⟨g', rfl⟩ : ∃ g', gk = g' + 1 := ⟨gk - 1, by omega⟩
   have hnx : ∀ ty, (Instr.next (.pointer (some ⟨w.heap.size, 0, none⟩)) true ty).run Try.prog wr = _ := fun ty => Lib.run_next_any_at wr w.heap.size s pos ty hit hps
   rw [plainTo_on s pos hps] at hpl
   have hbr := bt_range s pos
   by_cases hp : plainP (bt s (pos : Int)) = true
   ·have hlow : bt s (pos : Int) < 128 := plain_low _ hbr.1 hbr.2 hp
    rw [decode_low s pos hps hlow] at hnx
    rw [if_pos hp] at hpl
    simp only at hnx
    have hit2 := Lib.iterAt_heap wr w.heap.size s pos (pos + 1) hit
    have hbw2 := Lib.below_iterAt hbw (k := w.heap.size) (Nat.le_refl _) s (pos + 1)
    obtain ⟨W, hWd⟩ : ∃ W, wr.iterAt w.heap.size s (pos + 1) = W := ⟨_, rfl⟩
    rw [hWd] at hnx hit2 hbw2
    have hltW : w.heap.size < W.heap.size := (Array.getElem?_eq_some_iff.1 hit2).1
    have hoc := odd_calls (((bt s (pos : Int)).toNat : Nat) : Int) (by omega) W
    have ho : oddR (((bt s (pos : Int)).toNat : Nat) : Int) = false := by
     rw [show (((bt s (pos : Int)).toNat : Nat) : Int) = bt s pos from by omega]
     unfold oddR
     rw [hp, decide_eq_false (by omega)]
     rfl
    rw [ho] at hoc
    generalize (bt s (pos : Int)).toNat = c at *
    have HOC := Lib.hid hoc
    have HI2 := Lib.hid hit2
    have HPL := Lib.hid hpl
    clear hoc hit2 hit hpl ho hlow hp hbr hbw
    go_wp2_with (go_at_call 142; refine HOC.out.mono ?_; rintro e W' ⟨rfl, hbc⟩)
    go_roundg g'
    case measure => omega
    case rel => exact ⟨pos + 1, (hbc.block _ hltW).trans HI2.out, hbw2.trans (hbc.mono hbw2.size), HPL.out, by omega, by omega⟩
   ·rw [if_neg hp] at hpl
    obtain ⟨Rn, hRn⟩ : ∃ R, (Utf8.decode s pos).1 = R := ⟨_, rfl⟩
    obtain ⟨K, hK⟩ : ∃ K, (Utf8.decode s pos).2 = K := ⟨_, rfl⟩
    have hodd : oddR (Rn : Int) = true := by
     by_cases hlow : bt s (pos : Int) < 128
     ·rw [decode_low s pos hps hlow] at hRn
      simp only at hRn
      have hpf : plainP (bt s (pos : Int)) = false := by simpa using hp
      unfold oddR
      rw [show ((Rn : Nat) : Int) = bt s pos from by omega, hpf]
      simp
     ·have := decode_high s pos hps hlow
      unfold oddR
      rw [decide_eq_true (by omega)]
      rfl
    rw [hRn, hK] at hnx
    have hbw2 := Lib.below_iterAt hbw (k := w.heap.size) (Nat.le_refl _) s (pos + K)
    obtain ⟨W, hWd⟩ : ∃ W, wr.iterAt w.heap.size s (pos + K) = W := ⟨_, rfl⟩
    rw [hWd] at hnx hbw2
    have hoc := odd_calls (Rn : Int) (by omega) W
    rw [hodd] at hoc
    have hres : F0 = (pos : Int) := by rw [← HF.out, ← hpl, if_pos hps]
    have HRES := Lib.hid hres
    have HOC := Lib.hid hoc
    clear hoc hit hpl hp hbr hbw hodd hRn hK hres
    go_wp2_with (go_at_call 142; refine HOC.out.mono ?_; rintro e W' ⟨rfl, hbc⟩)
    go_ret
    exact ⟨by rw [HRES.out]; rfl, hbw2.trans (hbc.mono hbw2.size)⟩
  ·have hnx : ∀ ty, (Instr.next (.pointer (some ⟨w.heap.size, 0, none⟩)) true ty).run Try.prog wr = _ := fun ty => Lib.run_next_end_at wr w.heap.size s pos ty hit hps
   have hR : R0 = s.size := by
    obtain rfl : pos = s.size := by omega
    rw [Nat.sub_self] at hpl
    simpa [plainTo] using hpl.symm
   have hres : F0 = -1 := by rw [← HF.out, if_neg (by omega)]
   have HRES := Lib.hid hres
   clear hpl hit hR hres
   go_wp2
   go_ret
   exact ⟨by rw [HRES.out]; rfl, hbw⟩
theorem containsOdd_calls (s : ByteArray) (w : World) (hs : s.size ≤ 140737488351232) :
  Calls Try.prog 143 #[.string s, .func (.func 142) #[] #[]] w fun e w' => e = .returned (.bool (decide (0 ≤ firstOdd s))) ∧ Below w.heap.size w w' := by
 have h1 := fun W => indexOdd_calls s W hs
 generalize firstOdd s = F at *
 have H1 := Lib.hid h1
 clear h1
 have key : ∀ W, Calls Try.prog 164 #[.string s, .func (.func 142) #[] #[]] W fun e w' => e = .returned (.int .i64 F) ∧ Below W.heap.size W w' := fun W => by
  go_enter Try.func164, Try.ntmps164
  go_wp2_with (go_at_call 170; refine (H1.out _).mono ?_; rintro e w' ⟨rfl, hb⟩)
  go_ret
  exact ⟨rfl, hb⟩
 have HK := Lib.hid key
 clear key
 go_enter Try.func143, Try.ntmps143
 go_wp2_with (go_at_call 164; refine (HK.out _).mono ?_; rintro e w' ⟨rfl, hb⟩)
 go_ret
 exact ⟨rfl, hb⟩
def plainB (x : S56) : Bool := if x.f0 = 46 then decide (0 < x.f1.size) && (x.f3 == 1 && !decide (0 ≤ firstOdd x.f1)) else decide (x.f1.size = 0) && decide (0 < (nameP x.f0).size)
set_option maxRecDepth 100000 in
set_option maxHeartbeats 4000000 in
theorem plainN_calls (x : S56) (w : World) (hs : x.f1.size ≤ 140737488351232) :
  Calls Try.prog 101 #[.agg #[.int .u8 x.f0, .string x.f1, .int .i64 x.f2, .int .i64 x.f3]] w fun e w' => e = .returned (.bool (plainB x)) ∧ Below w.heap.size w w' := by
 obtain ⟨f0, f1, f2, f3⟩ := x
 simp only at hs
 have hb0 : Below w.heap.size w (w.alloc (.cells #[.int .u8 f0, .string f1, .int .i64 f2, .int .i64 f3] 56)) := (Below.refl _ _).alloc (Nat.le_refl _) _
 have HB := Lib.hid hb0
 obtain ⟨B, hB⟩ : ∃ B, plainB ⟨f0, f1, f2, f3⟩ = B := ⟨_, rfl⟩
 rw [hB]
 unfold plainB at hB
 simp only at hB
 have HBB := Lib.hid hB
 have HC := Lib.hid (fun W => containsOdd_calls f1 W hs)
 have HN := Lib.hid (fun W => name_calls f0 W)
 clear hb0 hB
 by_cases h46 : f0 = 46
 ·rw [if_pos h46] at HBB
  subst h46
  by_cases hz : f1.size = 0
  ·have e1 : f1.toList = [] := by have := empty_size f1; rw [decide_eq_true hz] at this; simpa using this
   have e2 : f1.toList.isEmpty = true := by rw [e1]; rfl
   have HB2 := Lib.hid (show B = false from by rw [← HBB.out, decide_eq_false (by omega)]; rfl)
   clear hz
   go_enter Try.func101, Try.ntmps101
   go_wp2
   go_ret
   exact ⟨by rw [HB2.out]; rfl, HB.out⟩
  ·have e2 : f1.toList.isEmpty = false := by rw [empty_size, decide_eq_false hz]
   have e1 : f1.toList ≠ [] := fun e => by rw [e] at e2; cases e2
   by_cases h3 : f3 = 1
   ·subst h3
    have HB2 := Lib.hid (show B = !decide (0 ≤ firstOdd f1) from by rw [← HBB.out, decide_eq_true (by omega)]; simp)
    generalize decide (0 ≤ firstOdd f1) = c at *
    clear hz
    go_enter Try.func101, Try.ntmps101
    go_wp2_with (go_at_call 143; refine (HC.out _).mono ?_; rintro e w' ⟨rfl, hb⟩)
    go_ret
    exact ⟨by rw [HB2.out]; rfl, HB.out.trans (hb.mono HB.out.size)⟩
   ·have h3b : (f3 == 1) = false := beq_eq_false_iff_ne.2 h3
    have HB2 := Lib.hid (show B = false from by rw [← HBB.out, decide_eq_true (by omega), h3b]; rfl)
    clear hz h3
    go_enter Try.func101, Try.ntmps101
    go_wp2
    go_ret
    exact ⟨by rw [HB2.out]; rfl, HB.out⟩
 ·rw [if_neg h46] at HBB
  have h46b : (f0 == 46) = false := beq_eq_false_iff_ne.2 h46
  have h46c : (f0 != 46) = true := bne_iff_ne.2 h46
  clear h46
  by_cases hz : f1.size = 0
  ·have e1 : f1.toList = [] := by have := empty_size f1; rw [decide_eq_true hz] at this; simpa using this
   have e2 : f1.toList.isEmpty = true := by rw [e1]; rfl
   obtain ⟨nm, hnm⟩ : ∃ nm, nameP f0 = nm := ⟨_, rfl⟩
   rw [hnm] at HBB
   simp only [hnm] at HN
   clear hnm
   by_cases hnz : nm.size = 0
   ·have n2 : nm.toList.isEmpty = true := by rw [empty_size, decide_eq_true hnz]
    have n1 : nm.toList = [] := by simpa using n2
    have HB2 := Lib.hid (show B = false from by rw [← HBB.out, decide_eq_false (p := 0 < nm.size) (by omega)]; simp)
    clear hz hnz
    go_enter Try.func101, Try.ntmps101
    go_wp2_with (go_at_call 48; refine (HN.out _).mono ?_; rintro e w' ⟨rfl, hb⟩)
    go_ret
    exact ⟨by rw [HB2.out]; rfl, HB.out.trans (hb.mono HB.out.size)⟩
   ·have n2 : nm.toList.isEmpty = false := by rw [empty_size, decide_eq_false hnz]
    have n1 : nm.toList ≠ [] := fun e => by rw [e] at n2; cases n2
    have HB2 := Lib.hid (show B = true from by rw [← HBB.out, decide_eq_true hz, decide_eq_true (p := 0 < nm.size) (by omega)]; rfl)
    clear hz hnz
    go_enter Try.func101, Try.ntmps101
    go_wp2_with (go_at_call 48; refine (HN.out _).mono ?_; rintro e w' ⟨rfl, hb⟩)
    go_ret
    exact ⟨by rw [HB2.out]; rfl, HB.out.trans (hb.mono HB.out.size)⟩
  ·have e2 : f1.toList.isEmpty = false := by rw [empty_size, decide_eq_false hz]
   have e1 : f1.toList ≠ [] := fun e => by rw [e] at e2; cases e2
   have HB2 := Lib.hid (show B = false from by rw [← HBB.out, decide_eq_false hz]; rfl)
   clear hz
   go_enter Try.func101, Try.ntmps101
   go_wp2
   go_ret
   exact ⟨by rw [HB2.out]; rfl, HB.out⟩
end Go.Proofs.Ythcmfjpheanphaa.Pr
