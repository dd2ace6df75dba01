/- Texts of this seat, one behind the other. -/
import Derived.Laws.EntriesVeiled
import Derived.Lib.OthersKept
import Derived.Lib.DecodeN
import Derived.Test.YthcmfjpheanphaaXNormForms4
set_option linter.unusedVariables false
set_option linter.unusedSimpArgs false
set_option maxHeartbeats 16000000
set_option maxRecDepth 100000
namespace Go.Proofs.Ythcmfjpheanphaa.Pr
open Go.RowKit Go.Shelf Go.Proofs.YthcmfjpheanphaaW.PrintWords
attribute [local go_sem] Oper.semAt_some
theorem ydG (t x : ByteArray) (h : zkR t = some x) : zhP (t.extract 1 t.size) x = true ∧ x ∈ zbT := by
 unfold zkR at h
 exact ⟨List.find?_some (p := fun n => zhP (t.extract 1 t.size) n) h,List.mem_of_find?_eq_some h⟩
theorem ydH {t n : ByteArray} (h : zhP t n = true) : n.size ≤ t.size := by
 unfold zhP at h
 split at h
 ·assumption
 cases h
theorem zyS (t : ByteArray) (a : Int) (h1 : 1 ≤ t.size) (h : (zdG t a).e = 0) : 1 ≤ (zdG t a).size ∧ (zdG t a).size ≤ t.size := by
 unfold zdG at h ⊢
 split
 ·rename_i h123
  rw [if_pos h123] at h
  unfold zlT at h ⊢
  cases ho : zkR t with
  | none => rw [ho] at h;simp at h
  | some x =>
  simp only
  have hp := ydG t x ho
  have := ydH hp.1
  rw [ByteArray.size_extract] at this
  split <;> omega
 rename_i h123
 rw [if_neg h123] at h
 split
 ·simp only;omega
 rename_i h125
 rw [if_neg h125] at h
 split
 ·rename_i h0
  rw [if_pos h0] at h
  simp at h
 have := zmK t t.size 0 (by omega)
 simp only;omega
def allL (s : ByteArray) : Nat → Nat → List (Nat × Spot)
 | 0,_ => []
 | d + 1,at_ => if at_ < s.size then (at_,zdG (s.extract at_ s.size) at_) :: (if (zdG (s.extract at_ s.size) at_).e = 0 then allL s d (at_ + (zdG (s.extract at_ s.size) at_).size.toNat) else []) else []
def encA (x : Nat × Spot) : Array Value := #[.int .i64 x.1,ziH x.2]
def KS (B : Nat) (W W' : World) : Prop := W'.heap[B]? = W.heap[B]? ∧ ∀ (g : Nat) (cs : Array Value),W.heap[g]? = some (.cells cs 87 (0,0)) → W'.heap[g]? = some (.cells cs 87 (0,0))
theorem KS_t {B : Nat} {X Y Z : World} (h : KS B X Y) (k : KS B Y Z) : KS B X Z := ⟨k.1.trans h.1,fun g cs hg => k.2 g cs (h.2 g cs hg)⟩
theorem KS_b {B : Nat} {w : World} (hB : B < w.heap.size) (W : World) (l : Nat) (o o' : Obj) (hl : w.heap.size ≤ l) (ho : W.heap[l]? = some o) (hc : o.isCells = false) (_ : o.isWalk = false) : KS B W (W.putObj l o') :=
 ⟨World.putObj_heap_other (by omega),fun g cs hg => by
  by_cases hgl : g = l
  ·subst hgl
   rw [ho] at hg
   cases hg
   cases hc
  rw [World.putObj_heap_other hgl];exact hg⟩
set_option pp.maxSteps 3000 in
theorem all1_in (n : Nat) (hn : 1 ≤ n) (l Bs : Nat) (s : ByteArray) (hs : s.size ≤ 1000000) (J Jx : List (Nat × Spot) → World → Prop) (W : World) (hJ : AbidesFrom W.heap.size J)
  (hY : ∀ pre x W,J pre W → pre.length < s.size → YieldAt Fence.wide (n - 1) Try.prog l (encA x) W fun e W' =>
   (e = .returned (.bool true) ∧ J (pre ++ [x]) W' ∧ KS Bs W W') ∨ (e = .returned (.bool false) ∧ Jx (pre ++ [x]) W'))
  (hb : Boxed W Bs 9 (.string s)) (h0 : J [] W) :
  CallsIn Fence.wide n Try.prog 129 #[.func (.yield l) #[] #[],.pointer (some ⟨Bs,0,none⟩)] W fun e W' => (∃ v,e = .returned v) ∧
   ((∃ ys,ys = allL s s.size 0 ∧ J ys W') ∨ (∃ pre,pre <+: allL s s.size 0 ∧ Jx pre W')) := by
 refine callsIn_of_wp Try.func129 rfl trivial ?_ rfl
 simp only [Try.ntmps129,List.size_toArray,List.length_cons,List.length_nil,Nat.reduceAdd,Nat.reduceSub,Array.replicate_succ,Array.replicate_zero,List.push_toArray,List.append_toArray,List.nil_append,List.cons_append]
 gi_wp2
 gi_loopw [3] (fun i wr => ∃ (k d : Nat) (pre : List (Nat × Spot)),k ≤ s.size ∧ i = .int .i64 k ∧ s.size ≤ d + k ∧ allL s s.size 0 = pre ++ allL s d k ∧ pre.length ≤ k ∧ J pre wr ∧ Boxed wr Bs 9 (.string s))
  (fun i _ => s.size - (intOf i).toNat)
 case atStart => exact ⟨0,s.size,[],Nat.zero_le _,rfl,by omega,rfl,Nat.le_refl _,h0,hb⟩
 case round =>
  obtain ⟨k,d,pre,hk,rfl,hd,hL,hpl,hJs,hB⟩ := hrel
  have hcx := hB.cell
  by_cases hlt : k < s.size
  ·have hl2 : (k : Int) < (s.size : Int) := by omega
   obtain ⟨d,rfl⟩ : ∃ d',d = d' + 1 := ⟨d - 1,by omega⟩
   have hsl := fun W => Go.Det.sl_strl (P := Try.prog) Try.underlying9 s k (by omega) W
   have htz : (s.extract k s.size).size = s.size - k := by rw [ByteArray.size_extract];omega
   have hnx := fun w => ydF (s.extract k s.size) k (by omega) (by omega) w
   have hok := zyS (s.extract k s.size) k (by omega)
   have hLs : allL s (d + 1) k = (k,zdG (s.extract k s.size) k) :: (if (zdG (s.extract k s.size) k).e = 0 then allL s d (k + (zdG (s.extract k s.size) k).size.toNat) else []) := by simp only [allL];rw [if_pos hlt]
   rw [hLs] at hL
   clear hLs
   rw [htz] at hok
   generalize s.extract k s.size = t at *
   generalize zdG t k = x at *
   obtain ⟨⟨f0,f1,f2,f3⟩,sz,er⟩ := x
   have HL := Lib.hid hL
   have HN := Lib.hid hnx
   have HO := Lib.hid hok
   clear hL hnx hok hb htz
   gi_wp2_with fail
   refine ⟨trivial,(callsIn_wide.2 (HN.out _)).mono ?_⟩
   rintro e w2 ⟨rfl,hb2⟩
   unfold ziH
   have hB2 := zsB hB hb2
   have hJ2 : J pre w2 := hJ _ _ _ none hJs (ziD hb2 none) (by simp)
   have hJ3 : J pre (w2.alloc (.cells #[.int .i64 f0,.int .u8 f1,.string f2,.int .i64 f3,.int .i64 sz,.int .i64 er] 87)) := hJ _ _ _ none hJ2 (World.grownBy_alloc _ _ none) (by simp)
   have hB3 := hB2.alloc (.cells #[.int .i64 f0,.int .u8 f1,.string f2,.int .i64 f3,.int .i64 sz,.int .i64 er] 87)
   have hS3 := zbW w2 (.cells #[.int .i64 f0,.int .u8 f1,.string f2,.int .i64 f3,.int .i64 sz,.int .i64 er] 87)
   clear hb2 hJs hB hcx
   obtain ⟨fn,tmps,assign,body,hy,hR⟩ := hY pre (k,⟨⟨f0,f1,f2,f3⟩,sz,er⟩) _ hJ3 (by omega)
   dsimp only [encA,ziH] at hy
   gi_wp2_with fail
   refine hR.mono ?_
   rintro e W3 (⟨rfl,hJ4,hk3⟩ | ⟨rfl,hJx4⟩)
   ·have hblk := hk3.2 _ _ hS3
    have hsz := zaB hblk 4
    have hse := zaB hblk 5
    simp only [gzz] at hsz hse
    have hB4 := yaN hB3 hk3.1
    by_cases her : er = 0
    ·have hoo := HO.out her
     subst her
     obtain ⟨z,rfl⟩ : ∃ z : Nat,sz = z := ⟨sz.toNat,by omega⟩
     clear hblk HO hB2 hB3 hk3 hJ2 hJ3 hS3
     gi_wp2
     go_roundw
     case rel =>
      refine ⟨k + z,d,pre ++ [(k,⟨⟨f0,f1,f2,f3⟩,z,0⟩)],by omega,by go_num,by omega,?_,by rw [List.length_append];simp only [List.length_singleton];omega,hJ4,hB4⟩
      rw [HL.out];simp
     case measure => simp [intOf];omega
    ·have hb1 : (er == 0) = false := beq_eq_false_iff_ne.2 her
     have hb2 : (er != 0) = true := bne_iff_ne.2 her
     have hend : Hid (allL s s.size 0 = pre ++ [(k,⟨⟨f0,f1,f2,f3⟩,sz,er⟩)]) := Lib.hid (by rw [HL.out];simp [her])
     clear hblk HO hB2 hB3 hk3 hJ2 hJ3 hS3 her
     gi_wp2
     refine bodyPost_ret (results_none rfl _ _ _) rfl ?_
     exact ⟨⟨_,rfl⟩,.inl ⟨_,hend.out.symm,hJ4⟩⟩
   ·clear HO hB2 hB3 hJ2 hJ3
    gi_wp2
    refine bodyPost_ret (results_none rfl _ _ _) rfl ?_
    exact ⟨⟨_,rfl⟩,.inr ⟨_,⟨_,by rw [HL.out,List.append_assoc];rfl⟩,hJx4⟩⟩
  ·gi_wp2
   go_end0
   have hL2 : allL s s.size 0 = pre := by
    rw [hL]
    cases d with
    | zero => simp [allL]
    | succ d => simp [allL,hlt]
   exact ⟨⟨_,rfl⟩,.inl ⟨pre,hL2.symm,hJs⟩⟩
theorem yfF (n : Nat) (hn : 1 ≤ n) (Bs : Nat) (s : ByteArray) (hs : s.size ≤ 1000000) (w : World) (hb : Boxed w Bs 9 (.string s)) :
  SeqStopsK Fence.wide n Try.prog 129 #[.pointer (some ⟨Bs,0,none⟩)] encA (KS Bs) (fun ys => ys = allL s s.size 0) (fun pre => pre <+: allL s s.size 0) s.size w := fun l J Jx W hW hJ _ hY h0 =>
 all1_in n hn l Bs s hs J Jx W hJ hY (zsB hb hW) h0
theorem all_in (s : ByteArray) (n : Nat) (w : World) :
  CallsIn Fence.wide n Try.prog 82 #[.string s] w fun e w' => e = .returned (.func (.func 129) #[] #[.pointer (some ⟨w.heap.size,0,none⟩)]) ∧ w' = w.alloc (.cells #[.string s] 9) := by
 refine callsIn_of_wp Try.func82 rfl trivial ?_ rfl
 simp only [Try.ntmps82,List.size_toArray,List.length_cons,List.length_nil,Nat.reduceAdd,Nat.reduceSub,Array.replicate_succ,Array.replicate_zero,List.push_toArray,List.append_toArray,List.nil_append,List.cons_append]
 gi_wp2
 go_ret
 exact ⟨rfl,rfl⟩
def zgX (xs : List S47) : List Value := xs.flatMap fun x => [.int .i64 x.f0,.int .u8 x.f1,.string x.f2,.int .i64 x.f3]
theorem zxY (xs : List S47) : (zgX xs).length = xs.length * 4 := by
 induction xs with
 | nil => rfl
 | cons x xs ih => simp [zgX] at ih ⊢;omega
theorem yaT (xs : List S47) (x : S47) : zgX (xs ++ [x]) = zgX xs ++ [.int .i64 x.f0,.int .u8 x.f1,.string x.f2,.int .i64 x.f3] := by simp [zgX]
theorem yfG (xs : List S47) : ∀ (j : Nat) (p : S47),xs[j]? = some p → ((zgX xs).drop (j * 4)).take 4 = [.int .i64 p.f0,.int .u8 p.f1,.string p.f2,.int .i64 p.f3] := by
 induction xs with
 | nil => intro j p h;simp at h
 | cons x xs ih =>
 intro j p h
 cases j with
 | zero => simp at h;subst h;simp [zgX]
 | succ j =>
 have := ih j p (by simpa using h)
 rw [Nat.succ_mul]
 simp only [zgX,List.flatMap_cons] at this ⊢
 rw [show ∀ l : List Value,(([.int .i64 x.f0,.int .u8 x.f1,.string x.f2,.int .i64 x.f3] : List Value) ++ l).drop (j * 4 + 4) = l.drop (j * 4) from fun l => rfl]
 exact this
theorem own_R47 {w : World} {base : Nat} {v : Value} {xs : List S47} (h : w.ownsRow base 47 4 v xs.length (zgX xs)) (b' : Nat) (hb : b' ≤ base) : Kd.R k47 47 w b' (fun _ => True) v xs := by
 refine Kd.R_lower (base := base) ⟨fun _ _ => trivial,zgX xs,h,zxY xs,fun j p hp => ?_⟩ hb
 have := yfG xs j p hp
 show k47.M _ _ _ _ (((zgX xs).drop (j * 4)).take 4)
 rw [this]
 exact ziE _ _ _ _
theorem info47h : (Try.prog.info? 47).map (fun i => (i.zero,i.size,i.bytes)) = some (some (.agg #[(.int .i64 0),(.int .u8 0),(.string ⟨#[]⟩),(.int .i64 0)]),4,40) := by kernel_rfl
def zhE (pre : List (Nat × Spot)) : List S47 := pre.map (·.2.l)
def zhX (pre : List (Nat × Spot)) : Int := match pre.getLast? with | some x => x.1 | none => 0
def zfJ (pre : List (Nat × Spot)) : Int := match pre.getLast? with | some x => x.2.e | none => 0
def lexP (s : ByteArray) : List S47 × Int × Int :=
 if 8192 < s.size then ([],0,4)
 else if zfJ (allL s s.size 0) = 0 then (zhE (allL s s.size 0),0,0) else ([],zhX (allL s s.size 0),zfJ (allL s s.size 0))
theorem zoQ (pre : List (Nat × Spot)) (x : Nat × Spot) : zfJ (pre ++ [x]) = x.2.e := by simp [zfJ]
theorem yaU (pre : List (Nat × Spot)) (x : Nat × Spot) : zhX (pre ++ [x]) = x.1 := by simp [zhX]
theorem ydI (pre : List (Nat × Spot)) (x : Nat × Spot) : zhE (pre ++ [x]) = zhE pre ++ [x.2.l] := by simp [zhE]
theorem zpW (pre : List (Nat × Spot)) : (zhE pre).length = pre.length := by simp [zhE]
theorem ztS (s : ByteArray) : ∀ (d k : Nat) (pre : List (Nat × Spot)),pre <+: allL s d k → zfJ pre ≠ 0 → pre = allL s d k
 | 0,k,pre,h,he => by
  simp only [allL] at h ⊢
  exact List.prefix_nil.1 h
 | d + 1,k,pre,h,he => by
  simp only [allL] at h ⊢
  split at h
  ·rename_i hk
   rw [if_pos hk]
   cases pre with
   | nil => simp [zfJ] at he
   | cons y pre =>
   rw [List.cons_prefix_cons] at h
   obtain ⟨rfl,h⟩ := h
   cases pre with
   | nil =>
    have : (zdG (s.extract k s.size) k).e ≠ 0 := by simpa [zfJ] using he
    rw [if_neg this]
   | cons z pre =>
   split at h
   ·rename_i h0
    rw [if_pos h0]
    congr 1
    exact ztS s d _ (z :: pre) h (by simpa [zfJ] using he)
   simp at h
  have := List.prefix_nil.1 h
  subst this
  simp [zfJ] at he
theorem zkF {W : World} {B : Nat} {t : TypeId} {v : Value} (h : Boxed W B t v) (B1 : Nat) (v1 : Value) : Boxed (W.setCell ⟨B1,0,none⟩ v1) B t (if B1 = B then v1 else v) := by
 by_cases e : B1 = B
 ·subst e;rw [if_pos rfl];exact h.set _
 rw [if_neg e];exact h.other (fun h => e h.symm) _
theorem zyT {W : World} {B : Nat} {t : TypeId} {v v' : Value} (h : Boxed W B t v) (B1 B2 B3 : Nat) (v1 v2 v3 : Value) (e : (if B3 = B then v3 else if B2 = B then v2 else if B1 = B then v1 else v) = v') :
  Boxed (((W.setCell ⟨B1,0,none⟩ v1).setCell ⟨B2,0,none⟩ v2).setCell ⟨B3,0,none⟩ v3).drew B t v' := by
 subst e
 exact ydC (zkF (zkF (zkF h B1 v1) B2 v2) B3 v3)
theorem zvP {W : World} {B : Nat} {t : TypeId} {v v' : Value} (h : Boxed W B t v) (B1 B2 B3 : Nat) (v1 v2 v3 : Value) (e : (if B3 = B then v3 else if B2 = B then v2 else if B1 = B then v1 else v) = v') :
  Boxed (((W.setCell ⟨B1,0,none⟩ v1).setCell ⟨B2,0,none⟩ v2).setCell ⟨B3,0,none⟩ v3) B t v' := by
 subst e
 exact zkF (zkF (zkF h B1 v1) B2 v2) B3 v3
def zwL (x : Spot) : Array Value := #[.int .i64 x.l.f0,.int .u8 x.l.f1,.string x.l.f2,.int .i64 x.l.f3,.int .i64 x.size,.int .i64 x.e]
theorem blk_own {W W' : World} {row : Option Nat} {g B : Nat} {cs : Array Value} {t : TypeId} (h : W.heap[g]? = some (.cells cs t (0,0))) (hg : W.grownBy W' row) (hr : ∀ r,row = some r → B ≤ r ∧ ∃ o : Obj,W.heap[r]? = some o ∧ o.isCells = false) : W'.heap[g]? = some (.cells cs t (0,0)) :=
 (hg.block g (zfB h) (fun e => by
  obtain ⟨_,o,ho,hc⟩ := hr g e.symm
  rw [h] at ho
  cases ho
  cases hc)).trans h
set_option pp.maxSteps 1500 in
theorem yiA (s : ByteArray) (hs : s.size ≤ 8192) (w : World) :
  CallsIn Fence.wide 3 Try.prog 45 #[.string s] w fun e W' => ∃ v l a b,e = .returned (.tuple #[v,.int .i64 a,.int .i64 b]) ∧ lexP s = (l,a,b) ∧ Kd.R k47 47 W' w.heap.size (fun _ => True) v l ∧ Below w.heap.size w W' := by
 obtain ⟨i0,hi,hz0,hz1,hz2⟩ := info_parts info47h
 refine callsIn_of_wp_marks Try.func45 rfl trivial ?_ rfl
 simp only [Try.ntmps45,List.size_toArray,List.length_cons,List.length_nil,Nat.reduceAdd,Nat.reduceSub,Array.replicate_succ,Array.replicate_zero,List.push_toArray,List.append_toArray,List.nil_append,List.cons_append]
 have hs2 : (s.size : Int) ≤ 8192 := by omega
 gi_wp2_with (refine ⟨trivial,?_⟩;gi_at_call 82;refine (all_in s _ _).mono ?_;rintro e w' ⟨rfl,rfl⟩)
 have b0 := (((Boxed.new w 41 (.slice none 0 0)).alloc (.cells #[.int .i64 0] 3)).alloc (.cells #[.int .i64 0] 42)).alloc (.cells #[.string s] 9)
 have b1 := ((Boxed.new (w.alloc (.cells #[.slice none 0 0] 41)) 3 (.int .i64 0)).alloc (.cells #[.int .i64 0] 42)).alloc (.cells #[.string s] 9)
 have b2 := (Boxed.new ((w.alloc (.cells #[.slice none 0 0] 41)).alloc (.cells #[.int .i64 0] 3)) 42 (.int .i64 0)).alloc (.cells #[.string s] 9)
 have b3 := Boxed.new (((w.alloc (.cells #[.slice none 0 0] 41)).alloc (.cells #[.int .i64 0] 3)).alloc (.cells #[.int .i64 0] 42)) 9 (.string s)
 have hB0 : Below w.heap.size w ((((w.alloc (.cells #[.slice none 0 0] 41)).alloc (.cells #[.int .i64 0] 3)).alloc (.cells #[.int .i64 0] 42)).alloc (.cells #[.string s] 9)) :=
  ((((Below.refl _ w).alloc (Nat.le_refl _) _).alloc (by simp) _).alloc (by simp;omega) _).alloc (by simp;omega) _
 have hz : ((((w.alloc (.cells #[.slice none 0 0] 41)).alloc (.cells #[.int .i64 0] 3)).alloc (.cells #[.int .i64 0] 42)).alloc (.cells #[.string s] 9)).heap.size = w.heap.size + 4 := by simp
 simp only [World.size_alloc] at b0 b1 b2 b3
 obtain ⟨W0,hW0⟩ : ∃ W0,((((w.alloc (.cells #[.slice none 0 0] 41)).alloc (.cells #[.int .i64 0] 3)).alloc (.cells #[.int .i64 0] 42)).alloc (.cells #[.string s] 9)) = W0 := ⟨_,rfl⟩
 rw [hW0] at b0 b1 b2 b3 hB0 hz ⊢
 clear hW0
 apply wpIn_rangeFunc_ownH rfl (by omega) (gf := 129) (lb := #[.pointer (some ⟨w.heap.size + 1 + 1 + 1,0,none⟩)]) rfl trivial (enters_of Try.func129 (by kernel_rfl) rfl)
  (yfF _ (by omega) (w.heap.size + 1 + 1 + 1) s (by omega) W0 b3) KS_t (KS_b (by omega)) (Below.refl _ _) (fun _ => rfl)
  (fun pre W => (∃ v,Boxed W w.heap.size 41 v ∧ W.ownsRow w.heap.size 47 4 v pre.length (zgX (zhE pre)) ∧ True) ∧ (Boxed W (w.heap.size + 1) 3 (.int .i64 0) ∧ Boxed W (w.heap.size + 1 + 1) 42 (.int .i64 0) ∧ Boxed W (w.heap.size + 1 + 1 + 1) 9 (.string s)) ∧ Below w.heap.size w W ∧ zfJ pre = 0)
  (fun c pre W => (c = .ret ∧ zfJ pre ≠ 0) ∧ (Boxed W w.heap.size 41 (.slice none 0 0) ∧ Boxed W (w.heap.size + 1) 3 (.int .i64 (zhX pre)) ∧ Boxed W (w.heap.size + 1 + 1) 42 (.int .i64 (zfJ pre))) ∧ Below w.heap.size w W)
  (OwnFrom.and (Own.from (holdsRow_own w.heap.size w.heap.size 41 47 4 (fun pre => pre.length) (fun pre => zgX (zhE pre)) (fun _ _ => True)) _) (OwnFrom.and (OwnFrom.and (Own.from (zlQ _ _ _) _) (OwnFrom.and (Own.from (zlQ _ _ _) _) (Own.from (zlQ _ _ _) _))) (OwnFrom.and (ownFrom_below (Nat.le_refl _) (by omega)) (ownFrom_pure _ _))))
  (fun c => OwnFrom.and (ownFrom_pure _ _) (OwnFrom.and (OwnFrom.and (Own.from (zlQ _ _ _) _) (OwnFrom.and (Own.from (boxed_own _ _ (fun pre => .int .i64 (zhX pre))) _) (Own.from (boxed_own _ _ (fun pre => .int .i64 (zfJ pre))) _))) (ownFrom_below (Nat.le_refl _) (by omega))))
  ⟨⟨_,b0,World.ownsRow_nil _ _ _ _,trivial⟩,⟨b1,b2,b3⟩,hB0,rfl⟩
  (fun x a' W => ∃ Bx,w.heap.size + 4 ≤ Bx ∧ W.heap[Bx]? = some (.cells (zwL x.2) 87 (0,0)) ∧ a' = { tmps := #[.string s,undef,.pointer (some ⟨w.heap.size,0,none⟩),.pointer (some ⟨w.heap.size + 1,0,none⟩),.pointer (some ⟨w.heap.size + 1 + 1,0,none⟩),.int .i64 x.1,.pointer (some ⟨Bx,0,none⟩),.string s,.int .i64 s.size,.bool (decide (8192 < (s.size : Int))),.string s,.func (.func 129) #[] #[.pointer (some ⟨w.heap.size + 1 + 1 + 1,0,none⟩)],.int .i64 x.1,ziH x.2,undef,undef,undef,undef,undef,undef,undef,undef,undef,undef,undef,undef,undef,undef,undef,undef,undef,undef,undef,undef,undef,undef,undef],defers := [] })
  (fun x a' _ W W' row hs hg hr => by
   obtain ⟨Bx,g1,g2,g3⟩ := hs
   exact ⟨Bx,g1,blk_own g2 hg hr,g3⟩)
 case hassign =>
  rintro l pre ⟨k,⟨⟨f0,f1,f2,f3⟩,sz,er⟩⟩ W K ⟨⟨v,hv,hrow,-⟩,⟨h1,h2,h3⟩,hB,he⟩ hK
  dsimp only [encA,ziH] at *
  have Hrow := Lib.hid hrow
  have HK := Lib.hid hK
  have hsz : w.heap.size + 4 ≤ W.heap.size := by have := h3.lt;omega
  clear hrow hK
  gi_wp2
  refine HK.out _ _ ((KeepsOthers.alloc _ _).from _) ⟨Below.heap_alloc _ _ _ h3.lt,fun g cs hg => zcE hg _⟩ ⟨⟨v,hv.alloc _,Hrow.out.alloc _,trivial⟩,⟨h1.alloc _,h2.alloc _,h3.alloc _⟩,hB.alloc hB.size _,he⟩ ⟨W.heap.size,hsz,zbW W _,rfl⟩
 case hbody =>
  rintro l pre ⟨k,⟨⟨f0,f1,f2,f3⟩,sz,er⟩⟩ a' W hl hr ⟨⟨v,hv,hrow,-⟩,⟨h1,h2,h3⟩,hB,he⟩ ⟨Bx,hBx,hX,rfl⟩ hlt
  dsimp only [zwL,ziH] at *
  have c0 := zaB hX 0
  have c1 := zaB hX 1
  have c2 := zaB hX 2
  have c3 := zaB hX 3
  have c5 := zaB hX 5
  simp only [gzz] at c0 c1 c2 c3 c5
  have hs4 : w.heap.size + 4 ≤ W.heap.size := by have := h3.lt;omega
  have hvc := hv.cell
  have hvf := hv.frozen
  by_cases her : er = 0
  ·subst her
   have Hr := Lib.hid hrow
   have HX := Lib.hid hX
   clear hrow hX c5
   have c5 : W.cell? ⟨Bx,5,none⟩ = some (.int .i64 0) := by rw [zaB HX.out 5];rfl
   gi_wp2_with (gi_at_builtin;refine wpListIn_append_own _ rfl _ _ 41 rfl w.heap.size 47 i0 (.agg #[(.int .i64 0),(.int .u8 0),(.string ⟨#[]⟩),(.int .i64 0)]) 4 40 Try.underlying41 hi hz0 hz1 hz2 rfl (by decide) _ _ _ rfl (Hr.out.alloc _) ⟨W.heap.size,0,none⟩ 1 1 [.int .i64 f0,.int .u8 f1,.string f2,.int .i64 f3] rfl rfl ?c1 ?c2 ?c3 ?c4 ?c5 ?c6)
   case c1 => exact yfC W [.int .i64 f0,.int .u8 f1,.string f2,.int .i64 f3] 47
   case c2 => simp [Value.oneCell']
   case c3 => unfold maxLen;omega
   case c4 => omega
   case c5 => simp;omega
   case c6 =>
    intro v' w1 hown' hgrow _
    obtain ⟨g',cap',rfl⟩ := ownsRow_succ hown'
    obtain ⟨hv1,hv2,hr2,hk2,hb2⟩ := hv.appended (by decide) Hr.out (show w.heap.size ≤ W.heap.size by omega) (Nat.le_refl _) hown' hgrow
    have hkeep : ∀ (g : Nat) (cs : Array Value) (t : TypeId),t ≠ 41 → t ≠ 47 → W.heap[g]? = some (.cells cs t (0,0)) → (w1.setCell ⟨w.heap.size,0,none⟩ (Value.slice (some ⟨g',0,none⟩) (pre.length + 1) cap')).heap[g]? = some (.cells cs t (0,0)) := fun g cs t ht1 ht2 hg => by
     have hgl : g ≠ w.heap.size := fun e => by
      subst e
      rw [show W.heap[w.heap.size]? = _ from hv] at hg
      simp only [Option.some.injEq,Obj.cells.injEq] at hg
      exact ht1 hg.2.1.symm
     rw [Below.heap_setCell _ _ _ _ hgl]
     exact (hgrow.block g (by simp;have := zfB hg;omega) (zeM Hr.out hg (Ne.symm ht2))).trans (zcE hg _)
    have q1 := hkeep _ _ 3 (by decide) (by decide) h1
    have q2 := hkeep _ _ 42 (by decide) (by decide) h2
    have q3 := hkeep _ _ 9 (by decide) (by decide) h3
    have q4 : ∀ (g : Nat) (cs : Array Value),W.heap[g]? = some (.cells cs 87 (0,0)) → (w1.setCell ⟨w.heap.size,0,none⟩ (Value.slice (some ⟨g',0,none⟩) (pre.length + 1) cap')).heap[g]? = some (.cells cs 87 (0,0)) := fun g cs hg => hkeep g cs 87 (by decide) (by decide) hg
    have q5 := h3
    have hc1 := hv1.cell
    have hf1 := hv1.frozen
    have HQ := Lib.hid (And.intro q1 (And.intro q2 (And.intro q3 (And.intro q4 (And.intro hr2 (And.intro hv2 hown'))))))
    clear q1 q2 q3 q4 hr2 hv2 hown' hkeep hv1 c0 c1 c2 c3 c5 hvc hvf
    gi_wp2
    obtain ⟨q1,q2,q3,q4,hr2,hv2,-⟩ := HQ.out
    refine ⟨hk2.from _,⟨q3.trans (show W.heap[w.heap.size + 1 + 1 + 1]? = _ from h3).symm,q4⟩,⟨_,hv2,?_,trivial⟩,⟨q1,q2,q3⟩,hB.trans (hb2.mono (by omega)),zoQ _ _⟩
    rw [ydI,yaT]
    simpa using hr2
  ·have hb1 : (er == 0) = false := beq_eq_false_iff_ne.2 her
   have hb2 : (er != 0) = true := bne_iff_ne.2 her
   have Hr := Lib.hid hrow
   have HX := Lib.hid hX
   have e1 := h1.cell
   have e2 := h1.frozen
   have e3 := h2.cell
   have e4 := h2.frozen
   have Her := Lib.hid her
   clear hrow hX her
   gi_wp2
   have mixed : Try.prog.follows .mixedOrders = true := by kernel_rfl
   gi_region_with_o (fail)
   all_goals gi_wp2
   all_goals (try go_bits)
   all_goals
    refine ⟨?_,⟨rfl,by rw [zoQ];exact Her.out⟩,⟨?_,?_,?_⟩,?_⟩
    ·exact (((((KeepsOthers.setCell _ _ _).trans (KeepsOthers.setCell _ _ _)).trans (KeepsOthers.setCell _ _ _)).trans (KeepsOthers.drew _)).from _)
    ·exact zyT hv _ _ _ _ _ _ (by simp <;> omega)
    ·rw [yaU]
     exact zyT h1 _ _ _ _ _ _ (by simp <;> omega)
    ·rw [zoQ]
     exact zyT h2 _ _ _ _ _ _ (by simp <;> omega)
    ·exact ziC (((hB.setCell (by simp;try omega) _).setCell (by simp;try omega) _).setCell (by simp;try omega) _)
 case hdone =>
  rintro D ys W hD rfl ⟨⟨v,hv,hrow,-⟩,⟨h1,h2,h3⟩,hB,he⟩ hK
  have e0 := hv.cell
  have e1 := hv.frozen
  have e2 := h1.cell
  have e3 := h1.frozen
  have e4 := h2.cell
  have e5 := h2.frozen
  have Hr := Lib.hid hrow
  have HK := Lib.hid hK
  obtain ⟨A,c,rfl⟩ := zbB hrow
  clear hrow hK
  simp only [Exit.inBlock,Exit.then]
  gi_wp2
  have n0 := zeM Hr.out hv (by decide)
  have n1 := zeM Hr.out h1 (by decide)
  have n2 := zeM Hr.out h2 (by decide)
  have hro := zcG (zcG (zcG Hr.out (p := ⟨w.heap.size,0,none⟩) n0 (Value.slice A (allL s s.size 0).length c)) (p := ⟨w.heap.size + 1,0,none⟩) n1 (Value.int IntKind.i64 0)) (p := ⟨w.heap.size + 1 + 1,0,none⟩) n2 (Value.int IntKind.i64 0)
  have q0 := zvP hv w.heap.size (w.heap.size + 1) (w.heap.size + 1 + 1) (Value.slice A (allL s s.size 0).length c) (.int .i64 0) (.int .i64 0) (v' := Value.slice A (allL s s.size 0).length c) (by simp <;> omega)
  have q1 := zvP h1 w.heap.size (w.heap.size + 1) (w.heap.size + 1 + 1) (Value.slice A (allL s s.size 0).length c) (.int .i64 0) (.int .i64 0) (v' := .int .i64 0) (by simp)
  have q2 := zvP h2 w.heap.size (w.heap.size + 1) (w.heap.size + 1 + 1) (Value.slice A (allL s s.size 0).length c) (.int .i64 0) (.int .i64 0) (v' := .int .i64 0) (by simp)
  have hk2 : (((W.setCell ⟨w.heap.size,0,none⟩ (Value.slice A (allL s s.size 0).length c)).setCell ⟨w.heap.size + 1,0,none⟩ (.int .i64 0)).setCell ⟨w.heap.size + 1 + 1,0,none⟩ (.int .i64 0)).heap[D]? = some (.deferred (some [])) := by
   rw [Below.heap_setCell _ _ _ _ (by simp;omega),Below.heap_setCell _ _ _ _ (by simp;omega),Below.heap_setCell _ _ _ _ (by simp;omega)];exact HK.out
  have hbel : Below w.heap.size w (((W.setCell ⟨w.heap.size,0,none⟩ (Value.slice A (allL s s.size 0).length c)).setCell ⟨w.heap.size + 1,0,none⟩ (.int .i64 0)).setCell ⟨w.heap.size + 1 + 1,0,none⟩ (.int .i64 0)) :=
   ((hB.setCell (show w.heap.size ≤ w.heap.size by omega) _).setCell (show w.heap.size ≤ w.heap.size + 1 by omega) _).setCell (show w.heap.size ≤ w.heap.size + 1 + 1 by omega) _
  clear e0 e1 e2 e3 e4 e5 hv h1 h2 h3 hB b0 b1 b2 b3 n0 n1 n2
  generalize (((W.setCell ⟨w.heap.size,0,none⟩ (Value.slice A (allL s s.size 0).length c)).setCell ⟨w.heap.size + 1,0,none⟩ (.int .i64 0)).setCell ⟨w.heap.size + 1 + 1,0,none⟩ (.int .i64 0)) = W2 at *
  refine ⟨by simp,.inl ⟨_,_,rfl,run_takeDeferred hk2,?_⟩⟩
  have hbd : Below w.heap.size W2 (W2.putObj D (.deferred none)) := belowK_b (w := w) (Nat.le_refl _) W2 D (.deferred (some [])) (.deferred none) (by omega) hk2 rfl rfl
  have p0 := (q0.kept (grownBy_putObj' W2 D (.deferred none)) (by simp;omega)).cell
  have p1 := (q1.kept (grownBy_putObj' W2 D (.deferred none)) (by simp;omega)).cell
  have p2 := (q2.kept (grownBy_putObj' W2 D (.deferred none)) (by simp;omega)).cell
  have hlex : lexP s = (zhE (allL s s.size 0),0,0) := by unfold lexP;rw [if_neg (by omega),if_pos he]
  have hro2 := ownsRow_putObj hro (.deferred none) hk2 rfl
  rw [show (allL s s.size 0).length = (zhE (allL s s.size 0)).length from (zpW _).symm] at hro2 p0 ⊢
  refine ⟨_,?_,_,_,_,_,rfl,hlex,own_R47 hro2 _ (Nat.le_refl _),hbel.trans hbd⟩
  simp [results,Try.results45,go_sem,p0,p1,p2]
 case hstop =>
  rintro D c pre W hD hpre ⟨⟨rfl,he⟩,⟨h0,h1,h2⟩,hB⟩ hK
  have hw := ztS s s.size 0 pre hpre he
  have hlex : lexP s = ([],zhX pre,zfJ pre) := by unfold lexP;rw [if_neg (by omega),← hw,if_neg he]
  gi_wp2
  refine ⟨by simp,.inl ⟨_,_,rfl,run_takeDeferred hK,?_⟩⟩
  have hbd : Below w.heap.size W (W.putObj D (.deferred none)) := belowK_b (w := w) (Nat.le_refl _) W D (.deferred (some [])) (.deferred none) (by omega) hK rfl rfl
  have p0 := (h0.kept (grownBy_putObj' W D (.deferred none)) (by simp;omega)).cell
  have p1 := (h1.kept (grownBy_putObj' W D (.deferred none)) (by simp;omega)).cell
  have p2 := (h2.kept (grownBy_putObj' W D (.deferred none)) (by simp;omega)).cell
  refine ⟨_,?_,_,_,_,_,rfl,hlex,Kd.R_nil _ _ _ _ _,hB.trans hbd⟩
  simp [results,Try.results45,go_sem,p0,p1,p2]
theorem ydJ (s : ByteArray) (hs : 8192 < s.size) (w : World) :
  Calls Try.prog 45 #[.string s] w fun e W' => e = .returned (.tuple #[.slice none 0 0,.int .i64 0,.int .i64 4]) ∧ Below w.heap.size w W' := by
 have hs2 : (8192 : Int) < (s.size : Int) := by omega
 go_enter Try.func45,Try.ntmps45
 go_wp2
 refine bodyPost_ret (v := .tuple #[.slice none 0 0,.int .i64 0,.int .i64 4]) (by simp [results,Try.results45,go_sem]) rfl ⟨rfl,?_⟩
 exact (((Below.refl _ w).alloc (Nat.le_refl _) _).alloc (by simp) _).alloc (by simp;omega) _
def lex_Of.f (a0 : ByteArray) : Option (List S47 × Int × Int) := some (lexP a0)
theorem lex_Of.calls (a0 : ByteArray) (r1 : List S47) (r2 r3 : Int) (w : World) (h : lex_Of.f a0 = some (r1,r2,r3)) :
  Calls Try.prog 45 #[.string a0] w fun e w' => ∃ v0_ : Value,e = .returned (.tuple #[v0_,.int .i64 r2,.int .i64 r3]) ∧ Kd.R k47 47 w' w.heap.size (fun _ => True) v0_ r1 ∧ Below w.heap.size w w' := by
 have h1 : lexP a0 = (r1,r2,r3) := Option.some.inj h
 by_cases hs : a0.size ≤ 8192
 ·refine (callsIn_wide.1 (yiA a0 hs w)).mono ?_
  rintro e W' ⟨v,l,a,b,rfl,h2,h3,h4⟩
  rw [h1] at h2
  simp only [Prod.mk.injEq] at h2
  obtain ⟨rfl,rfl,rfl⟩ := h2
  exact ⟨v,rfl,h3,h4⟩
 have h2 : lexP a0 = ([],0,4) := if_pos (by omega)
 rw [h1] at h2
 simp only [Prod.mk.injEq] at h2
 obtain ⟨rfl,rfl,rfl⟩ := h2
 refine (ydJ a0 (by omega) w).mono ?_
 rintro e W' ⟨rfl,h4⟩
 exact ⟨_,rfl,Kd.R_nil _ _ _ _ _,h4⟩
end Go.Proofs.Ythcmfjpheanphaa.Pr
namespace Go.Proofs.Ythcmfjpheanphaa.Pr
open Go.RowKit Go.Proofs.YthcmfjpheanphaaW.PrintWords Go.Proofs.YthcmfjpheanphaaW.PrintLast Go.Proofs.YthcmfjpheanphaaW.PrintMore
attribute [local go_sem] zaX zaY zbG zbI zaV zaW zaZ zbA
attribute [local go_sem high] eqA47
def zkB : Nat → List (S47) → List (S47) → Int → Option (Bool)
 | 0,_,_,_ => none
 | k + 1,x0,x1,x5 => if x5 < (x0.length : Int) then (if 0 ≤ x5 then (if x5 < (x1.length : Int) then (if (!(((zaI x0 x5).f0) == ((zaI x1 x5).f0)) || (!(((zaI x0 x5).f1) == ((zaI x1 x5).f1)) || (!((((zaI x0 x5).f2).toList) == (((zaI x1 x5).f2).toList)) || (!(((zaI x0 x5).f3) == ((zaI x1 x5).f3)))))) = true then (some false) else (zkB k x0 x1 (wrap64 (x5 + 1)))) else (none)) else (none)) else (some true)
def stylusref03_Same.f (k : Nat) (l0 : List (S47)) (l1 : List (S47)) : Option (Bool) := if (l0.length : Int) = (l1.length : Int) then (zkB k l0 l1 0) else (some false)
def styluslaw03_read.f (k : Nat) (a0 : ByteArray) (l1 : List (S47)) : Option (Bool) := (lex_Of.f a0).bind fun bt103 => (if bt103.2.2 = 0 then (if bt103.2.1 = 0 then ((stylusref03_Same.f k bt103.1 l1).bind fun t108 => (some t108)) else (some false)) else (some false))
def styluslaw03_spoilt.f (a0 : ByteArray) (a1 : Int) (a2 : Int) : Option (Bool) := (lex_Of.f a0).bind fun bt109 => (if (bt109.1.length : Int) = 0 then (if bt109.2.1 = a1 then (some (bt109.2.2 == a2)) else (some false)) else (some false))
def styluslaw03_awake.f (k : Nat)  : Option (Bool) := (styluslaw03_read.f k (⟨#[123,112,32,97,32,98,125]⟩ : ByteArray) (([(⟨2,112,(⟨#[]⟩ : ByteArray),0⟩ : S47),(⟨1,0,(⟨#[97,32,98]⟩ : ByteArray),3⟩ : S47),(⟨3,0,(⟨#[]⟩ : ByteArray),6⟩ : S47)] : List (S47)))).bind fun t117 => (if t117 = true then ((styluslaw03_read.f k (⟨#[123,104,49,97,125,125]⟩ : ByteArray) (([(⟨2,49,(⟨#[]⟩ : ByteArray),0⟩ : S47),(⟨1,0,(⟨#[97]⟩ : ByteArray),3⟩ : S47),(⟨3,0,(⟨#[]⟩ : ByteArray),4⟩ : S47),(⟨3,0,(⟨#[]⟩ : ByteArray),5⟩ : S47)] : List (S47)))).bind fun t121 => (if t121 = true then ((styluslaw03_read.f k (⟨#[]⟩ : ByteArray) ([] : List (S47))).bind fun t122 => (if t122 = true then ((styluslaw03_spoilt.f (⟨#[123,113,125]⟩ : ByteArray) 0 2).bind fun t123 => (if t123 = true then ((styluslaw03_spoilt.f (⟨#[97,123]⟩ : ByteArray) 1 2).bind fun t124 => (if t124 = true then ((styluslaw03_spoilt.f (⟨#[97,126]⟩ : ByteArray) 1 3).bind fun t125 => (if t125 = true then ((styluslaw03_spoilt.f (⟨#[123,104,52,125]⟩ : ByteArray) 0 2).bind fun t126 => (some t126)) else (some false))) else (some false))) else (some false))) else (some false))) else (some false))) else (some false))
def stylusref03_Letters.f  : Option (ByteArray) := some (⟨#[49,50,51,112,108,105,116,114,99,110,101,115,107]⟩ : ByteArray)
theorem stylusref03_Letters.calls  (r : ByteArray) (w : World) (h : stylusref03_Letters.f  = some r) :
  Calls Try.prog 51 #[] w fun e w' => e = .returned (.string r) ∧ Drawn0 w w' := by
 have H : (some (⟨#[49,50,51,112,108,105,116,114,99,110,101,115,107]⟩ : ByteArray)) = some r := h
 clear h
 obtain rfl := Option.some.inj H
 go_enter Try.func51,Try.ntmps51
 go_wp2
 go_ret
 exact ⟨qS,qW⟩
mutual
def zbN : Nat → Int → Bool → Option (ByteArray)
 | 0,_,_ => none
 | k + 1,x0,x13 => if x13 = true then ((some (([x0] : List Int) : List Int)).bind fun y127 => (if 1 + (strOfNums y127).size ≤ 9223372036854775807 then (some ((⟨#[104]⟩ : ByteArray) ++ (strOfNums y127))) else (none))) else (zbU k x0 0)
def zbU : Nat → Int → Int → Option (ByteArray)
 | 0,_,_ => none
 | k + 1,x0,x3 => (stylusref03_Letters.f).bind fun t130 => (if x3 < (t130.size : Int) then ((stylusref03_Letters.f).bind fun t131 => (if 0 ≤ x3 then (if x3 < (t131.size : Int) then (if (bt t131 x3) = x0 then (some (strOfNums (([x0] : List Int)))) else (zbU k x0 (wrap64 (x3 + 1)))) else (none)) else (none))) else (some (⟨#[]⟩ : ByteArray)))
end
def stylusref03_Name.f (k : Nat) (a0 : Int) : Option (ByteArray) := if a0 = 49 then (zbN k a0 true) else (if a0 = 50 then (zbN k a0 true) else (zbN k a0 (a0 == 51)))
theorem ziR : ∀ k,(∀ y0 y1,LeO (zbN k y0 y1) (zbN (k + 1) y0 y1)) ∧ (∀ y0 y1,LeO (zbU k y0 y1) (zbU (k + 1) y0 y1))
 | 0 => ⟨fun _ _ r h => by simp [zbN] at h,fun _ _ r h => by simp [zbU] at h⟩
 | k + 1 => by
  obtain ⟨ih0,ih1⟩ := ziR k
  refine ⟨?_,?_⟩
  ·intro y0 y1
   unfold zbN
   exact qm
  intro y0 y1
  unfold zbU
  exact qm
theorem stylusref03_Name.mono : ∀ a0 k,LeO (stylusref03_Name.f k a0) (stylusref03_Name.f (k + 1) a0) := by
 intro a0 k
 obtain ⟨ih0,ih1⟩ := ziR k
 unfold stylusref03_Name.f
 repeat' first
   | (with_reducible exact ih0 _ _)
   | (with_reducible exact ih1 _ _)
   | (with_reducible exact LeO.refl _)
   | (with_reducible exact LeO.none _)
   | (with_reducible refine zmB ?_ ?_)
   | (with_reducible refine LeO.bind ?_ (fun _ => ?_))
   | exact ih0 _ _
   | exact ih1 _ _
   | exact LeO.none _
   | refine zmB ?_ ?_
   | refine LeO.bind ?_ (fun _ => ?_)
theorem stylusref03_Name.calls (k : Nat) (a0 : Int) (r : ByteArray) (w : World) (h : stylusref03_Name.f k a0 = some r) :
  Calls Try.prog 49 #[.int .u8 a0] w fun e w' => e = .returned (.string r) ∧ Below w.heap.size w w' := by
 have HB := Aside0.mk (Below.refl w.heap.size w)
 have H : (if a0 = 49 then (zbN k a0 true) else (if a0 = 50 then (zbN k a0 true) else (zbN k a0 (a0 == 51)))) = some r := h
 clear h
 have HC2 := Aside0.mk H
 clear H
 go_enter Try.func49,Try.ntmps49
 go_upto_region 1 with (fail)
 go_cut [13] (fun v13 wc => ∃ (kq : Nat) (x13_1 : Bool),v13 = .bool x13_1 ∧ Aside0 (zbN kq a0 x13_1 = some r) ∧ Aside0 (kq ≤ k) ∧ Aside0 (Below w.heap.size w wc))
 case first =>
  have H := HC2.out
  clear HC2
  by_cases c3 : a0 = 49
  ·rw [if_pos c3] at H
   have c3b0 := beq_iff_eq.mpr c3
   have c3b1 := bne_eq_false_iff_eq.mpr c3
   clear c3
   (first | rw [c3b0] | (simp only [zaO,zaR];rw [c3b0]) | skip)
   have H' := Aside0.mk H
   clear H
   go_wp2
   go_meet
   case rel => exact ⟨_,(true),qS,H',⟨by first | omega | exact Nat.le_refl _⟩,⟨qB⟩⟩
  rw [if_neg c3] at H
  have c3b0 := beq_eq_false_iff_ne.mpr c3
  have c3b1 := bne_iff_ne.mpr c3
  (first | rw [c3b0] | (simp only [zaO,zaR];rw [c3b0]) | skip)
  by_cases c4 : a0 = 50
  ·rw [if_pos c4] at H
   have c4b0 := beq_iff_eq.mpr c4
   have c4b1 := bne_eq_false_iff_eq.mpr c4
   clear c4
   have H' := Aside0.mk H
   clear H
   go_wp2
   go_meet
   case rel => exact ⟨_,(true),qS,H',⟨by first | omega | exact Nat.le_refl _⟩,⟨qB⟩⟩
  rw [if_neg c4] at H
  have c4b0 := beq_eq_false_iff_ne.mpr c4
  have c4b1 := bne_iff_ne.mpr c4
  have H' := Aside0.mk H
  clear H
  go_wp2
  go_meet
  case rel => exact ⟨_,((a0 == 51)),qS,H',⟨by first | omega | exact Nat.le_refl _⟩,⟨qB⟩⟩
 clear HC2
 try clear p2
 try clear c3
 try clear c3b0
 try clear c3b1
 try clear c4
 try clear c4b0
 try clear c4b1
 obtain ⟨kq,x13_1,rfl,HA,HJ1,HB⟩ := hcut
 cases kq with
 | zero => exact absurd HA.out (by simp [zbN])
 | succ kj1 =>
 have H := HA.out
 clear HA
 simp only [zbN] at H
 by_cases c5 : x13_1 = true
 ·subst c5
  have H1 : ((some (([a0] : List Int) : List Int)).bind fun y127 => (if 1 + (strOfNums y127).size ≤ 9223372036854775807 then (some ((⟨#[104]⟩ : ByteArray) ++ (strOfNums y127))) else (none))) = some r := by rw [if_pos rfl] at H;exact H
  clear H
  have H := H1
  clear H1
  obtain ⟨y127,hy127⟩ : ∃ y_ : List Int,y_ = (([a0] : List Int)) := ⟨_,rfl⟩
  replace H : (if 1 + (strOfNums y127).size ≤ 9223372036854775807 then (some ((⟨#[104]⟩ : ByteArray) ++ (strOfNums y127))) else (none)) = some r := by first | (rw [hy127];with_reducible exact H) | (have H2_ := (Option.bind_some _ _).symm.trans H;rw [hy127];with_reducible exact H2_) | (have H2_ := (Option.bind_some _ _).symm.trans H;with_reducible exact H2_) | with_reducible exact H | (rw [hy127];exact H) | exact H
  have Ny127 := Aside0.mk hy127
  clear hy127
  by_cases c6 : 1 + (strOfNums y127).size ≤ 9223372036854775807
  rotate_left
  ·rw [if_neg c6] at H
   exact absurd H (by simp)
  rw [if_pos c6] at H
  have c6b0 := eq_true c6
  have c6b1 : decide (1 + (strOfNums y127).size ≤ 9223372036854775807) = true := decide_eq_true c6
  try have c6b2 : (9223372036854775807 < 1 + (strOfNums y127).size) = False := eq_false (Nat.not_lt.2 c6)
  obtain rfl := Option.some.inj H
  go_wp2_with (first | ((with_reducible refine zdT (N := 15) rfl ?_);refine Kd.R_lit (Kd.int .u8) _ 5 ?hg (N := 15) ?hd (xs := ([a0] : List Int)) (inner := [.int .u8 a0]) (ok := fun _ => True) (okp := fun _ => True) ?hr ?hp (fun _ hk => hk) trivial (Below.refl _ _) (Nat.le_refl _) (by simp) ?_;(case hd => rfl);(case hg => rfl);(case hr => first | (go_simp;done) | (go_simp;rfl));(case hp => exact (Reps.one (show Kd.M (Kd.int .u8) _ _ _ a0 [.int .u8 a0] from rfl) (Reps.none _ _)));intro v128 w7 ho8 hb hg_ hnew_;clear hg_ hnew_;(first | rw [← Ny127.out] at ho8 | (simp only [Int.reduceToNat] at ho8;rw [← Ny127.out] at ho8));obtain ⟨_,_⟩ := a2 (Kd.R_lower ho8 (zaF qB)) (zaD qB hb);clear HB hb ho8;rename_i HO129 HB;have hcv9 := ztB (P := Try.prog) Try.underlying68 Try.underlying5 Try.underlying9 (Kd.own_of_R HO129.out)))
  go_ret
  exact ⟨qE,qB⟩
 replace c5 := Bool.eq_false_iff.mpr c5
 subst c5
 have H1 : (zbU kj1 a0 0) = some r := by rw [if_neg nft] at H;exact H
 clear H
 have H := H1
 clear H1
 have H' := Aside0.mk H
 clear H
 go_wp2
 go_loopg [3] kj1 (fun kq v3 w' => ∃ (x3_2 : Int),v3 = .int .i64 x3_2 ∧ Aside0 (zbU kq a0 x3_2 = some r) ∧ Aside0 (kq ≤ kj1) ∧ Aside0 (Below w.heap.size w w'))
 case atStart => exact ⟨(0),qS,H',⟨Nat.le_refl _⟩,⟨qB⟩⟩
 clear H'
 try clear p2
 try clear c3
 try clear c3b0
 try clear c3b1
 try clear c4
 try clear c4b0
 try clear c4b1
 try clear c5
 try clear c6
 try clear c6b0
 try clear c6b1
 try clear c6b2
 try clear hcv9
 try clear p2
 obtain ⟨x3_2,rfl,HA,HK2,HB⟩ := hrel
 cases gk with
 | zero => exact absurd HA.out (by simp [zbU])
 | succ k2 =>
 have H := HA.out
 clear HA
 simp only [zbU] at H
 replace H := Option.bind_eq_some_iff.mp H
 obtain ⟨t130,A100,H⟩ := H
 replace H : (if x3_2 < (t130.size : Int) then ((stylusref03_Letters.f).bind fun t131 => (if 0 ≤ x3_2 then (if x3_2 < (t131.size : Int) then (if (bt t131 x3_2) = a0 then (some (strOfNums (([a0] : List Int)))) else (zbU k2 a0 (wrap64 (x3_2 + 1)))) else (none)) else (none))) else (some (⟨#[]⟩ : ByteArray))) = some r := H
 have A10 := Aside0.mk A100
 clear A100
 by_cases c11 : x3_2 < (t130.size : Int)
 rotate_left
 ·rw [if_neg c11] at H
  have c11b0 : decide (x3_2 < (t130.size : Int)) = false := decide_eq_false c11
  clear c11
  obtain rfl := Option.some.inj H
  go_wp2_with (first | ((with_reducible refine zaE (f := 51) rfl ?_);refine zaL (some 19) rfl rfl Try.func51 (by kernel_rfl) rfl #[] rfl qM ?_;(with_reducible refine (stylusref03_Letters.calls  t130 _ A10.out).mono ?_);rintro e w' ⟨rfl,⟨nd,rfl⟩⟩;refine ⟨_,rfl,?_⟩))
  go_ret
  exact ⟨qE,qB⟩
 rw [if_pos c11] at H
 have c11b0 : decide (x3_2 < (t130.size : Int)) = true := decide_eq_true c11
 clear c11
 replace H := Option.bind_eq_some_iff.mp H
 obtain ⟨t131,A120,H⟩ := H
 replace H : (if 0 ≤ x3_2 then (if x3_2 < (t131.size : Int) then (if (bt t131 x3_2) = a0 then (some (strOfNums (([a0] : List Int)))) else (zbU k2 a0 (wrap64 (x3_2 + 1)))) else (none)) else (none)) = some r := H
 have A12 := Aside0.mk A120
 clear A120
 by_cases c13 : 0 ≤ x3_2
 rotate_left
 ·rw [if_neg c13] at H
  exact absurd H (by simp)
 rw [if_pos c13] at H
 have c13b0 : decide (0 ≤ x3_2) = true := decide_eq_true c13
 clear c13
 by_cases c14 : x3_2 < (t131.size : Int)
 rotate_left
 ·rw [if_neg c14] at H
  exact absurd H (by simp)
 rw [if_pos c14] at H
 have c14b0 : decide (x3_2 < (t131.size : Int)) = true := decide_eq_true c14
 clear c14
 by_cases c16 : (bt t131 x3_2) = a0
 ·rw [if_pos c16] at H
  have c16b0 := beq_iff_eq.mpr c16
  have c16b1 := bne_eq_false_iff_eq.mpr c16
  clear c16
  obtain ⟨y132,hy132⟩ : ∃ y_ : List Int,y_ = (([a0] : List Int)) := ⟨_,rfl⟩
  replace H : (some (strOfNums y132)) = some r := by first | (rw [hy132];with_reducible exact H) | (have H2_ := (Option.bind_some _ _).symm.trans H;rw [hy132];with_reducible exact H2_) | (have H2_ := (Option.bind_some _ _).symm.trans H;with_reducible exact H2_) | with_reducible exact H | (rw [hy132];exact H) | exact H
  have Ny132 := Aside0.mk hy132
  clear hy132
  obtain rfl := Option.some.inj H
  go_wp2_with (first | ((with_reducible refine zaE (f := 51) rfl ?_);refine zaL (some 19) rfl rfl Try.func51 (by kernel_rfl) rfl #[] rfl qM ?_;(with_reducible refine (stylusref03_Letters.calls  t130 _ A10.out).mono ?_);rintro e w' ⟨rfl,⟨nd,rfl⟩⟩;refine ⟨_,rfl,?_⟩) | ((with_reducible refine zaE (f := 51) rfl ?_);refine zaL (some 24) rfl rfl Try.func51 (by kernel_rfl) rfl #[] rfl qM ?_;(with_reducible refine (stylusref03_Letters.calls  t131 _ A12.out).mono ?_);rintro e w' ⟨rfl,⟨nd,rfl⟩⟩;refine ⟨_,rfl,?_⟩;have p15 : 0 ≤ (x3_2 : Int) := qD;have q15 : x3_2 < (t131.size : Int) := qD;have hx15 := zfI t131 x3_2;replace p15 := eq_true p15;replace q15 := eq_true q15) | ((with_reducible refine zdT (N := 30) rfl ?_);refine Kd.R_lit (Kd.int .u8) _ 5 ?hg (N := 30) ?hd (xs := ([a0] : List Int)) (inner := [.int .u8 a0]) (ok := fun _ => True) (okp := fun _ => True) ?hr ?hp (fun _ hk => hk) trivial (Below.refl _ _) (Nat.le_refl _) (by simp) ?_;(case hd => rfl);(case hg => rfl);(case hr => first | (go_simp;done) | (go_simp;rfl));(case hp => exact (Reps.one (show Kd.M (Kd.int .u8) _ _ _ a0 [.int .u8 a0] from rfl) (Reps.none _ _)));intro v133 w17 ho18 hb hg_ hnew_;clear hg_ hnew_;(first | rw [← Ny132.out] at ho18 | (simp only [Int.reduceToNat] at ho18;rw [← Ny132.out] at ho18));obtain ⟨_,_⟩ := a2 (Kd.R_lower ho18 (zaF qB)) (zaD qB hb);clear HB hb ho18;rename_i HO134 HB;have hcv19 := ztB (P := Try.prog) Try.underlying68 Try.underlying5 Try.underlying9 (Kd.own_of_R HO134.out)))
  go_ret
  exact ⟨qE,qB⟩
 rw [if_neg c16] at H
 have c16b0 := beq_eq_false_iff_ne.mpr c16
 have c16b1 := bne_iff_ne.mpr c16
 have H' := Aside0.mk H
 clear H
 go_wp2_with (first | ((with_reducible refine zaE (f := 51) rfl ?_);refine zaL (some 19) rfl rfl Try.func51 (by kernel_rfl) rfl #[] rfl qM ?_;(with_reducible refine (stylusref03_Letters.calls  t130 _ A10.out).mono ?_);rintro e w' ⟨rfl,⟨nd,rfl⟩⟩;refine ⟨_,rfl,?_⟩) | ((with_reducible refine zaE (f := 51) rfl ?_);refine zaL (some 24) rfl rfl Try.func51 (by kernel_rfl) rfl #[] rfl qM ?_;(with_reducible refine (stylusref03_Letters.calls  t131 _ A12.out).mono ?_);rintro e w' ⟨rfl,⟨nd,rfl⟩⟩;refine ⟨_,rfl,?_⟩;have p15 : 0 ≤ (x3_2 : Int) := qD;have q15 : x3_2 < (t131.size : Int) := qD;have hx15 := zfI t131 x3_2;replace p15 := eq_true p15;replace q15 := eq_true q15))
 go_roundg k2
 case measure => have := HJ1.out;have := HK2.out;omega
 case rel => exact ⟨(wrap64 (x3_2 + 1)),qS,H',⟨by have := HJ1.out;have := HK2.out;omega⟩,⟨qB⟩⟩
def zeF : Nat → ByteArray → Int → Int → Option (Int × ByteArray)
 | 0,_,_,_ => none
 | k + 1,x0,x1,x6 => (stylusref03_Letters.f).bind fun t135 => (if x6 < (t135.size : Int) then ((stylusref03_Letters.f).bind fun t136 => (if 0 ≤ x6 then (if x6 < (t136.size : Int) then ((stylusref03_Name.f k (bt t136 x6)).bind fun t137 => (if (wrap64 ((wrap64 (x1 + 1)) + (t137.size : Int))) ≤ (x0.size : Int) then (if 0 ≤ (wrap64 (x1 + 1)) then (if (wrap64 (x1 + 1)) ≤ (wrap64 ((wrap64 (x1 + 1)) + (t137.size : Int))) then (if (x0.extract ((wrap64 (x1 + 1)) : Int).toNat ((wrap64 ((wrap64 (x1 + 1)) + (t137.size : Int))) : Int).toNat).toList = t137.toList then ((stylusref03_Letters.f).bind fun t138 => (if x6 < (t138.size : Int) then (some (bt t138 x6,t137)) else (none))) else (zeF k x0 x1 (wrap64 (x6 + 1)))) else (none)) else (none)) else (zeF k x0 x1 (wrap64 (x6 + 1))))) else (none)) else (none))) else (some (0,(⟨#[]⟩ : ByteArray))))
def stylusref03_opens.f (k : Nat) (a0 : ByteArray) (a1 : Int) : Option (Int × ByteArray) := zeF k a0 a1 0
def stylusref01_White.f (a0 : Int) : Option (Bool) := if a0 = 32 then (some true) else (some (a0 == 10))
theorem stylusref01_White.calls (a0 : Int) (r : Bool) (w : World) (h : stylusref01_White.f a0 = some r) :
  Calls Try.prog 84 #[.int .u8 a0] w fun e w' => e = .returned (.bool r) ∧ Drawn0 w w' := by
 have H : (if a0 = 32 then (some true) else (some (a0 == 10))) = some r := h
 clear h
 by_cases c2 : a0 = 32
 ·rw [if_pos c2] at H
  have c2b0 := beq_iff_eq.mpr c2
  have c2b1 := bne_eq_false_iff_eq.mpr c2
  clear c2
  obtain rfl := Option.some.inj H
  go_enter Try.func84,Try.ntmps84
  go_wp2
  go_ret
  exact ⟨qS,qW⟩
 rw [if_neg c2] at H
 have c2b0 := beq_eq_false_iff_ne.mpr c2
 have c2b1 := bne_iff_ne.mpr c2
 obtain rfl := Option.some.inj H
 go_enter Try.func84,Try.ntmps84
 go_wp2
 go_ret
 exact ⟨qS,qW⟩
end Go.Proofs.Ythcmfjpheanphaa.Pr
namespace Go.Proofs.Ythcmfjpheanphaa.Pr
open Go.RowKit Go.Proofs.YthcmfjpheanphaaW.PrintWords Go.Proofs.YthcmfjpheanphaaW.PrintLast Go.Proofs.YthcmfjpheanphaaW.PrintMore
attribute [local go_sem] zaX zaY zbG zbI zaV zaW zaZ zbA
mutual
def zeJ : Nat → ByteArray → List (S47) → Int → Int → Option ((List (S47)) × Int × Int)
 | 0,_,_,_,_ => none
 | k + 1,x0,x5,x6,x7 => if x7 < (x0.size : Int) then (if 0 ≤ x7 then (if (bt x0 x7) = 125 then (if x5.length < 3518437208883 then (zeJ k x0 (x5 ++ [(⟨3,0,(⟨#[]⟩ : ByteArray),x7⟩ : S47)]) 0 (wrap64 (x7 + 1))) else (none)) else (if (bt x0 x7) = 123 then ((stylusref03_opens.f k x0 x7).bind fun bt142 => (if bt142.1 = 0 then (some (([] : List (S47)),x7,2)) else (if x5.length < 3518437208883 then ((some (x5 ++ [(⟨2,bt142.1,(⟨#[]⟩ : ByteArray),x7⟩ : S47)] : List (S47))).bind fun y144 => (if (wrap64 ((wrap64 (x7 + (bt142.2.size : Int))) + 1)) < (x0.size : Int) then (if 0 ≤ (wrap64 ((wrap64 (x7 + (bt142.2.size : Int))) + 1)) then ((stylusref01_White.f (bt x0 (wrap64 ((wrap64 (x7 + (bt142.2.size : Int))) + 1)))).bind fun t147 => (if t147 = true then (zeJ k x0 y144 0 (wrap64 ((wrap64 ((wrap64 (x7 + (bt142.2.size : Int))) + 1)) + 1))) else (zeJ k x0 y144 0 (wrap64 ((wrap64 (x7 + (bt142.2.size : Int))) + 1))))) else (none)) else (zeJ k x0 y144 0 (wrap64 ((wrap64 (x7 + (bt142.2.size : Int))) + 1))))) else (none)))) else ((stylusref01_Is.f k (bt x0 x7)).bind fun t148 => (if t148 = true then (zlK k x0 x5 x6 x7 false) else ((stylusref01_White.f (bt x0 x7)).bind fun t149 => (zlK k x0 x5 x6 x7 (!t149))))))) else (none)) else (some (x5,0,0))
def zlK : Nat → ByteArray → List (S47) → Int → Int → Bool → Option ((List (S47)) × Int × Int)
 | 0,_,_,_,_,_ => none
 | k + 1,x0,x5,x6,x7,x76 => if x76 = true then (some (([] : List (S47)),x7,3)) else (if x6 = 0 then (if x5.length < 3518437208883 then ((some (x5 ++ [(⟨1,0,(⟨#[]⟩ : ByteArray),x7⟩ : S47)] : List (S47))).bind fun y150 => (if 0 ≤ (wrap64 ((y150.length : Int) - 1)) then (if (wrap64 ((y150.length : Int) - 1)) < (y150.length : Int) then (if 0 ≤ x7 then (if x7 ≤ (wrap64 (x7 + 1)) then (if (wrap64 (x7 + 1)) ≤ (x0.size : Int) then (if ((zaI y150 (wrap64 ((y150.length : Int) - 1))).f2).size + (x0.extract (x7 : Int).toNat ((wrap64 (x7 + 1)) : Int).toNat).size ≤ 9223372036854775807 then (zeJ k x0 (y150.set ((wrap64 ((y150.length : Int) - 1)) : Int).toNat (⟨(zaI y150 (wrap64 ((y150.length : Int) - 1))).f0,(zaI y150 (wrap64 ((y150.length : Int) - 1))).f1,((zaI y150 (wrap64 ((y150.length : Int) - 1))).f2) ++ (x0.extract (x7 : Int).toNat ((wrap64 (x7 + 1)) : Int).toNat),(zaI y150 (wrap64 ((y150.length : Int) - 1))).f3⟩ : S47)) 1 (wrap64 (x7 + 1))) else (none)) else (none)) else (none)) else (none)) else (none)) else (none))) else (none)) else (if 0 ≤ (wrap64 ((x5.length : Int) - 1)) then (if (wrap64 ((x5.length : Int) - 1)) < (x5.length : Int) then (if 0 ≤ x7 then (if x7 ≤ (wrap64 (x7 + 1)) then (if (wrap64 (x7 + 1)) ≤ (x0.size : Int) then (if ((zaI x5 (wrap64 ((x5.length : Int) - 1))).f2).size + (x0.extract (x7 : Int).toNat ((wrap64 (x7 + 1)) : Int).toNat).size ≤ 9223372036854775807 then (zeJ k x0 (x5.set ((wrap64 ((x5.length : Int) - 1)) : Int).toNat (⟨(zaI x5 (wrap64 ((x5.length : Int) - 1))).f0,(zaI x5 (wrap64 ((x5.length : Int) - 1))).f1,((zaI x5 (wrap64 ((x5.length : Int) - 1))).f2) ++ (x0.extract (x7 : Int).toNat ((wrap64 (x7 + 1)) : Int).toNat),(zaI x5 (wrap64 ((x5.length : Int) - 1))).f3⟩ : S47)) x6 (wrap64 (x7 + 1))) else (none)) else (none)) else (none)) else (none)) else (none)) else (none)))
end
def stylusref03_Of.f (k : Nat) (a0 : ByteArray) : Option ((List (S47)) × Int × Int) := if (a0.size : Int) > 8192 then (some (([] : List (S47)),0,4)) else (zeJ k a0 ([] : List (S47)) 0 0)
mutual
def zhN : Nat → ByteArray → Int → Int → Option (Int)
 | 0,_,_,_ => none
 | k + 1,x0,x3,x4 => if x4 < (x0.size : Int) then (if 0 ≤ x4 then ((stylusref01_Letter.f k (bt x0 x4)).bind fun t138 => (if t138 = true then ((stylusref01_Class.f k (bt x0 x4)).bind fun t139 => (if t139 = 2 then (zhN k x0 (wrap64 (x3 + 1)) (wrap64 (x4 + 1))) else (zhN k x0 x3 (wrap64 (x4 + 1))))) else (some 0))) else (none)) else (if (x0.size : Int) = 0 then (some 0) else (if x3 = 0 then (some 1) else (if x3 = 1 then (if 0 < (x0.size : Int) then ((stylusref01_Class.f k (bt x0 0)).bind fun t140 => (zkC k x0 x3 (t140 == 2))) else (none)) else (zkC k x0 x3 false))))
def zkC : Nat → ByteArray → Int → Bool → Option (Int)
 | 0,_,_,_ => none
 | k + 1,x0,x3,x35 => if x35 = true then (some 2) else (if x3 = (x0.size : Int) then (some 3) else (some 4))
end
def stylusref01_Case.f (k : Nat) (a0 : ByteArray) : Option (Int) := zhN k a0 0 0
end Go.Proofs.Ythcmfjpheanphaa.Pr
namespace Go.Proofs.Ythcmfjpheanphaa.Pure
open Go.RowKit Go.Proofs.Ythcmfjpheanphaa.Pr Go.Proofs.YthcmfjpheanphaaW.PrintWords
theorem bt_extract (s : ByteArray) (i q : Nat) (h : q ≤ s.size) (j : Nat) (hj : i + j < q) : bt (s.extract i q) (j : Int) = bt s ((i + j : Nat) : Int) := by
 have h1 : (j : Int).toNat < (s.extract i q).size := by rw [ByteArray.size_extract];simp;omega
 have h2 : ((i + j : Nat) : Int).toNat < s.size := by simp;omega
 simp only [bt,dif_pos h1,dif_pos h2]
 simp only [ByteArray.getElem_extract,Int.toNat_natCast]
end Go.Proofs.Ythcmfjpheanphaa.Pure
namespace Go.Proofs.Ythcmfjpheanphaa.Pr
open Go.RowKit Go.Proofs.YthcmfjpheanphaaW.PrintWords
def refStep (s : ByteArray) (k : Nat) (L : List S27) : List S27 :=
 match L.getLast? with
 | some p => if ztQ s k = ztQ s (k - 1) then L.dropLast ++ [⟨p.f0,p.f1 ++ s.extract k (k + 1)⟩] else L ++ [⟨k,s.extract k (k + 1)⟩]
 | none => L ++ [⟨k,s.extract k (k + 1)⟩]
def refL (s : ByteArray) : Nat → List S27
 | 0 => []
 | k + 1 => refStep s k (refL s k)
def stylusref01_Runs.f (a0 : ByteArray) : Option (List S27) := if a0.size ≤ 1000000 then some (refL a0 a0.size) else none
end Go.Proofs.Ythcmfjpheanphaa.Pr
namespace Go.Proofs.Ythcmfjpheanphaa.Pure
open Go.RowKit Go.Proofs.Ythcmfjpheanphaa.Pr Go.Proofs.YthcmfjpheanphaaW.PrintWords
theorem wrap_one {i : Nat} (h : i < 9223372036854775807) : wrap64 ((i : Int) + 1) = ((i + 1 : Nat) : Int) := by
 unfold wrap64;omega
end Go.Proofs.Ythcmfjpheanphaa.Pure
namespace Go.Proofs.Ythcmfjpheanphaa.Pure
open Go.RowKit Go.Proofs.Ythcmfjpheanphaa.Pr Go.Proofs.YthcmfjpheanphaaW.PrintWords Go.Proofs.YthcmfjpheanphaaW.PrintLast
def lexGo (s : ByteArray) : Nat → Nat → List S47 → List S47 × Int × Int
 | 0,_,acc => (acc,0,0)
 | d + 1,at_,acc => if at_ < s.size then (if (zdG (s.extract at_ s.size) at_).e = 0 then lexGo s d (at_ + (zdG (s.extract at_ s.size) at_).size.toNat) (acc ++ [(zdG (s.extract at_ s.size) at_).l]) else ([],at_,(zdG (s.extract at_ s.size) at_).e)) else (acc,0,0)
def outL (acc : List S47) (L : List (Nat × Spot)) : List S47 × Int × Int := if zfJ L = 0 then (acc ++ zhE L,0,0) else ([],zhX L,zfJ L)
theorem outL_nil (acc : List S47) : outL acc [] = (acc,0,0) := by simp [outL,zfJ,zhE]
theorem outL_cons (acc : List S47) (x y : Nat × Spot) (L : List (Nat × Spot)) : outL acc (x :: y :: L) = outL (acc ++ [x.2.l]) (y :: L) := by
 have e1 : zfJ (x :: y :: L) = zfJ (y :: L) := by simp [zfJ]
 have e2 : zhX (x :: y :: L) = zhX (y :: L) := by simp [zhX]
 unfold outL
 rw [e2,show zhE (x :: y :: L) = x.2.l :: zhE (y :: L) from rfl]
 simp [e1]
theorem lexGo_all (s : ByteArray) : ∀ (d at_ : Nat) (acc : List S47),lexGo s d at_ acc = outL acc (allL s d at_)
 | 0,at_,acc => by simp only [lexGo,allL,outL_nil]
 | d + 1,at_,acc => by
  simp only [lexGo,allL]
  by_cases h : at_ < s.size
  ·rw [if_pos h,if_pos h]
   by_cases he : (zdG (s.extract at_ s.size) at_).e = 0
   ·rw [if_pos he,if_pos he,lexGo_all s d]
    generalize allL s d (at_ + (zdG (s.extract at_ s.size) at_).size.toNat) = L
    cases L with
    | nil => simp [outL,zfJ,zhE,he]
    | cons y L => rw [outL_cons]
   rw [if_neg he,if_neg he]
   simp [outL,zfJ,zhX,he]
  rw [if_neg h,if_neg h,outL_nil]
theorem lexP_go (s : ByteArray) (h : s.size ≤ 8192) : lexP s = lexGo s s.size 0 [] := by
 unfold lexP
 rw [if_neg (by omega),lexGo_all]
 simp [outL]
theorem ext_ext (s : ByteArray) (a i j : Nat) (h : a + j ≤ s.size) : (s.extract a s.size).extract i j = s.extract (a + i) (a + j) := by
 rw [ByteArray.extract_extract]
 congr 1
 omega
theorem plainTo_ext (s : ByteArray) (p : Nat) (hp : p ≤ s.size) : ∀ d j,p + j ≤ s.size → p + zaT (s.extract p s.size) d j = zaT s d (p + j)
 | 0,j,_ => rfl
 | d + 1,j,hj => by
  simp only [zaT]
  have hsz : (s.extract p s.size).size = s.size - p := by rw [ByteArray.size_extract];omega
  by_cases h : p + j < s.size
  ·have hb : bt (s.extract p s.size) (j : Int) = bt s ((p + j : Nat) : Int) := bt_extract s p s.size (Nat.le_refl _) j h
   rw [hb,hsz]
   by_cases hpl : zcX (bt s ((p + j : Nat) : Int)) = true
   ·rw [if_pos ⟨by omega,hpl⟩,if_pos ⟨h,hpl⟩]
    exact plainTo_ext s p hp d (j + 1) (by omega)
   rw [if_neg (fun h => hpl h.2),if_neg (fun h => hpl h.2)]
  rw [if_neg (fun h' => by omega),if_neg (fun h' => by omega)]
theorem plainTo_le (t : ByteArray) : ∀ d q,q ≤ zaT t d q
 | 0,q => Nat.le_refl _
 | d + 1,q => by
  simp only [zaT]
  split
  ·have := plainTo_le t d (q + 1);omega
  exact Nat.le_refl _
theorem plainTo_more (t : ByteArray) : ∀ d e q,t.size ≤ d + q → t.size ≤ e + q → zaT t d q = zaT t e q
 | 0,e,q,h,_ => by rw [zjS t e q (fun h' => by omega)];rfl
 | d + 1,0,q,_,h => by rw [zjS t (d + 1) q (fun h' => by omega)];rfl
 | d + 1,e + 1,q,h,h' => by
  simp only [zaT]
  split
  ·exact plainTo_more t d e (q + 1) (by omega) (by omega)
  rfl
def tEnd (s : ByteArray) (q : Nat) : Nat := zaT s s.size q
theorem tEnd_step (s : ByteArray) (q : Nat) (h : q < s.size) (hp : zcX (bt s (q : Int)) = true) : tEnd s q = tEnd s (q + 1) := by
 unfold tEnd
 obtain ⟨n,hn⟩ : ∃ n,s.size = n + 1 := ⟨s.size - 1,by omega⟩
 have : zaT s (n + 1) q = zaT s n (q + 1) := by
  simp only [zaT];rw [if_pos ⟨h,hp⟩]
 rw [hn,this]
 exact plainTo_more s n (n + 1) (q + 1) (by omega) (by omega)
theorem tEnd_stop (s : ByteArray) (q : Nat) (h : ¬ (q < s.size ∧ zcX (bt s (q : Int)) = true)) : tEnd s q = q := zjS s _ q h
theorem tEnd_le (s : ByteArray) (q : Nat) (h : q ≤ s.size) : q ≤ tEnd s q ∧ tEnd s q ≤ s.size := ⟨plainTo_le s _ q,zmK s _ q h⟩
theorem nextP_at (s : ByteArray) (p : Nat) (hp : p < s.size) :
  zdG (s.extract p s.size) p = if bt s (p : Int) = 123 then zlT (s.extract p s.size) p else if bt s (p : Int) = 125 then ⟨⟨3,0,⟨#[]⟩,p⟩,1,0⟩
   else if tEnd s p = p then ⟨⟨0,0,⟨#[]⟩,0⟩,0,3⟩ else ⟨⟨1,0,s.extract p (tEnd s p),p⟩,((tEnd s p - p : Nat) : Int),0⟩ := by
 have hb : bt (s.extract p s.size) 0 = bt s (p : Int) := bt_extract s p s.size (Nat.le_refl _) 0 hp
 have hsz : (s.extract p s.size).size = s.size - p := by rw [ByteArray.size_extract];omega
 have ht : p + zaT (s.extract p s.size) (s.extract p s.size).size 0 = tEnd s p := by
  rw [plainTo_ext s p (by omega) _ 0 (by omega),hsz]
  exact plainTo_more s _ _ p (by omega) (by omega)
 have hle := tEnd_le s p (by omega)
 unfold zdG
 rw [hb]
 generalize zaT (s.extract p s.size) (s.extract p s.size).size 0 = z at *
 split
 ·rfl
 split
 ·rfl
 by_cases hz : z = 0
 ·rw [if_pos hz,if_pos (by omega)]
 rw [if_neg hz,if_neg (by omega),ext_ext s p 0 z (by omega)]
 rw [show p + z = tEnd s p from ht,Nat.add_zero,show z = tEnd s p - p by omega]
def lettersB : ByteArray := ⟨#[49,50,51,112,108,105,116,114,99,110,101,115,107]⟩
theorem letters_f : stylusref03_Letters.f = some lettersB := rfl
theorem names_fin : ∀ i : Fin 13,stylusref03_Name.f 20 (bt lettersB (i.val : Int)) = some (zbT.getD i.val ⟨#[]⟩) ∧ letP (zbT.getD i.val ⟨#[]⟩) = bt lettersB (i.val : Int) ∧ letP (zbT.getD i.val ⟨#[]⟩) ≠ 0 := by decide +kernel
theorem names_at (i : Nat) (hi : i < 13) (k : Nat) (hk : 20 ≤ k) : stylusref03_Name.f k (bt lettersB (i : Int)) = some (zbT.getD i ⟨#[]⟩) ∧ letP (zbT.getD i ⟨#[]⟩) = bt lettersB (i : Int) := by
 have h := names_fin ⟨i,hi⟩
 exact ⟨zpJ (fun k => stylusref03_Name.mono (bt lettersB (i : Int)) k) hk h.1,h.2.1⟩
def opensOut : Option ByteArray → Int × ByteArray
 | some n => (letP n,n)
 | none => (0,⟨#[]⟩)
theorem pref_at (s n : ByteArray) (p : Nat) (hp : p < s.size) : zhP ((s.extract p s.size).extract 1 (s.extract p s.size).size) n = if p + 1 + n.size ≤ s.size then (s.extract (p + 1) (p + 1 + n.size)).toList == n.toList else false := by
 have hsz : (s.extract p s.size).size = s.size - p := by rw [ByteArray.size_extract];omega
 have e1 : (s.extract p s.size).extract 1 (s.extract p s.size).size = s.extract (p + 1) s.size := by
  rw [hsz,ext_ext s p 1 (s.size - p) (by omega)]
  congr 1;omega
 rw [e1]
 unfold zhP
 have hsz2 : (s.extract (p + 1) s.size).size = s.size - (p + 1) := by rw [ByteArray.size_extract];omega
 rw [hsz2]
 by_cases h : p + 1 + n.size ≤ s.size
 ·rw [if_pos (by omega),if_pos h,ext_ext s (p + 1) 0 n.size (by omega),Nat.add_zero]
 rw [if_neg (by omega),if_neg h]
theorem opens_loop (s : ByteArray) (hs : s.size ≤ 1000000) (p : Nat) (hp : p < s.size) : ∀ (d i k : Nat),d + i = 13 → d + 21 ≤ k →
  zeF k s (p : Int) (i : Int) = some (opensOut ((zbT.drop i).find? fun n => zhP ((s.extract p s.size).extract 1 (s.extract p s.size).size) n))
 | 0,i,k,hd,hk => by
  obtain ⟨k,rfl⟩ : ∃ m,k = m + 1 := ⟨k - 1,by omega⟩
  obtain rfl : i = 13 := by omega
  simp only [zeF,letters_f,Option.bind_some]
  rw [if_neg (by decide)]
  rfl
 | d + 1,i,k,hd,hk => by
  obtain ⟨k,rfl⟩ : ∃ m,k = m + 1 := ⟨k - 1,by omega⟩
  have hi : i < 13 := by omega
  have hn := names_at i hi k (by omega)
  have hlz : (lettersB.size : Int) = 13 := rfl
  have hdrop : zbT.drop i = zbT.getD i ⟨#[]⟩ :: zbT.drop (i + 1) := by
   rw [List.drop_eq_getElem_cons (show i < zbT.length from hi)]
   congr 1
   rw [List.getD_eq_getElem?_getD,List.getElem?_eq_getElem (show i < zbT.length from hi)]
   rfl
  have hxs := ziT (zbT.getD i ⟨#[]⟩) (by
   rw [List.getD_eq_getElem?_getD,List.getElem?_eq_getElem (show i < zbT.length from hi)]
   exact List.getElem_mem _)
  have ih := opens_loop s hs p hp d (i + 1) k (by omega) (by omega)
  have hpa := pref_at s (zbT.getD i ⟨#[]⟩) p hp
  rw [hdrop]
  generalize zbT.getD i ⟨#[]⟩ = x at *
  have q1 : (i : Int) < 13 := by omega
  have q2 : (0 : Int) ≤ (i : Int) := by omega
  have q3 : (0 : Int) ≤ ((p + 1 : Nat) : Int) := by omega
  have q4 : ((p + 1 : Nat) : Int) ≤ ((p + 1 + x.size : Nat) : Int) := by omega
  have q8 : i < 9223372036854775807 := by omega
  have q9 : p < 9223372036854775807 := by omega
  have q6 : p + 1 + x.size ≤ s.size → ((p + 1 + x.size : Nat) : Int) ≤ (s.size : Int) := fun h => by omega
  have q7 : ¬ p + 1 + x.size ≤ s.size → ¬ ((p + 1 + x.size : Nat) : Int) ≤ (s.size : Int) := fun h => by omega
  have w2 : wrap64 (((p + 1 : Nat) : Int) + (x.size : Int)) = ((p + 1 + x.size : Nat) : Int) := by
   have : p + 1 + x.size < 9223372036854775807 := by omega
   clear hn ih hpa hdrop
   unfold wrap64;omega
  have w1 : wrap64 ((p : Int) + 1) = ((p + 1 : Nat) : Int) := wrap_one q9
  have q5 : wrap64 ((i : Int) + 1) = ((i + 1 : Nat) : Int) := wrap_one q8
  have hn1 := hn.1
  have hn2 := hn.2
  have hlf := letters_f
  unfold zeF
  clear hdrop hxs hn
  generalize lettersB = LB at *
  simp only [hlf,Option.bind_some]
  rw [hlz]
  refine (if_pos q1).trans ?_
  refine (if_pos q2).trans ?_
  refine (if_pos q1).trans ?_
  rw [hn1,Option.bind_some,w1,w2,q5,ih,Int.toNat_natCast,Int.toNat_natCast]
  by_cases h1 : p + 1 + x.size ≤ s.size
  ·rw [if_pos h1] at hpa
   refine (if_pos (q6 h1)).trans ?_
   refine (if_pos q3).trans ?_
   refine (if_pos q4).trans ?_
   by_cases h2 : (s.extract (p + 1) (p + 1 + x.size)).toList = x.toList
   ·have h3 : ((s.extract (p + 1) (p + 1 + x.size)).toList == x.toList) = true := beq_iff_eq.2 h2
    rw [h3] at hpa
    refine (if_pos h2).trans ?_
    refine (if_pos q1).trans ?_
    rw [List.find?_cons_of_pos hpa]
    simp only [opensOut,hn2]
   have h3 : ((s.extract (p + 1) (p + 1 + x.size)).toList == x.toList) = false := beq_eq_false_iff_ne.2 h2
   rw [h3] at hpa
   refine (if_neg h2).trans ?_
   rw [List.find?_cons_of_neg (by rw [hpa];simp)]
  rw [if_neg h1] at hpa
  refine (if_neg (q7 h1)).trans ?_
  rw [List.find?_cons_of_neg (by rw [hpa];simp)]
theorem opens_f (s : ByteArray) (hs : s.size ≤ 1000000) (p : Nat) (hp : p < s.size) (k : Nat) (hk : 34 ≤ k) : stylusref03_opens.f k s (p : Int) = some (opensOut (zkR (s.extract p s.size))) :=
 opens_loop s hs p hp 13 0 k rfl (by omega)
def isB (c : Int) : Bool := !(zfC c == 0) && !(zfC c == 6)
theorem is_fin : ∀ n : Fin 256,stylusref01_Is.f 20 (n.val : Int) = some (isB (n.val : Int)) ∧ stylusref01_White.f (n.val : Int) = some (zdA (n.val : Int)) ∧ (zcX (n.val : Int) = (isB (n.val : Int) || zdA (n.val : Int))) ∧ (zcX (n.val : Int) = true → (n.val : Int) ≠ 125 ∧ (n.val : Int) ≠ 123) := by decide +kernel
theorem is_at (c : Int) (h0 : 0 ≤ c) (h1 : c ≤ 255) (k : Nat) (hk : 20 ≤ k) : stylusref01_Is.f k c = some (isB c) ∧ stylusref01_White.f c = some (zdA c) ∧ zcX c = (isB c || zdA c) ∧ (zcX c = true → c ≠ 125 ∧ c ≠ 123) := by
 have h := is_fin ⟨c.toNat,by omega⟩
 simp only [Int.toNat_of_nonneg h0] at h
 exact ⟨zpJ (fun k => stylusref01_Is.mono c k) hk h.1,h.2⟩
theorem lexGo_step (s : ByteArray) (d at_ : Nat) (acc : List S47) (x : Spot) (hat : at_ < s.size) (hx : zdG (s.extract at_ s.size) at_ = x) (z : Nat) (h0 : x.e = 0) (hz : x.size = (z : Int)) :
  lexGo s (d + 1) at_ acc = lexGo s d (at_ + z) (acc ++ [x.l]) := by
 simp only [lexGo]
 rw [if_pos hat,hx,if_pos h0,hz,Int.toNat_natCast]
theorem lexGo_bad (s : ByteArray) (d at_ : Nat) (acc : List S47) (x : Spot) (hat : at_ < s.size) (hx : zdG (s.extract at_ s.size) at_ = x) (h0 : x.e ≠ 0) :
  lexGo s (d + 1) at_ acc = ([],(at_ : Int),x.e) := by
 simp only [lexGo]
 rw [if_pos hat,hx,if_neg h0]
theorem next_close (s : ByteArray) (p : Nat) (hp : p < s.size) (h : bt s (p : Int) = 125) : zdG (s.extract p s.size) p = ⟨⟨3,0,⟨#[]⟩,p⟩,1,0⟩ := by
 rw [nextP_at s p hp]
 have h1 : ¬ bt s (p : Int) = 123 := fun e => by rw [h] at e;exact absurd e (by decide)
 rw [if_neg h1,if_pos h]
theorem next_open (s : ByteArray) (p : Nat) (hp : p < s.size) (h : bt s (p : Int) = 123) : zdG (s.extract p s.size) p = zlT (s.extract p s.size) p := by
 rw [nextP_at s p hp,if_pos h]
theorem next_text (s : ByteArray) (p : Nat) (hp : p < s.size) (h1 : bt s (p : Int) ≠ 123) (h2 : bt s (p : Int) ≠ 125) (h3 : zcX (bt s (p : Int)) = true) : p < tEnd s p ∧ zdG (s.extract p s.size) p = ⟨⟨1,0,s.extract p (tEnd s p),p⟩,((tEnd s p - p : Nat) : Int),0⟩ := by
 have hst := tEnd_step s p hp h3
 have hle := tEnd_le s (p + 1) (by omega)
 have hlt : p < tEnd s p := by omega
 refine ⟨hlt,?_⟩
 rw [nextP_at s p hp,if_neg h1,if_neg h2,if_neg (by omega)]
theorem next_bad (s : ByteArray) (p : Nat) (hp : p < s.size) (h1 : bt s (p : Int) ≠ 123) (h2 : bt s (p : Int) ≠ 125) (h3 : ¬ zcX (bt s (p : Int)) = true) : zdG (s.extract p s.size) p = ⟨⟨0,0,⟨#[]⟩,0⟩,0,3⟩ := by
 rw [nextP_at s p hp,if_neg h1,if_neg h2,if_pos (tEnd_stop s p (fun h => h3 h.2))]
theorem openP_none (s : ByteArray) (p : Nat) (hn : zkR (s.extract p s.size) = none) : zlT (s.extract p s.size) p = ⟨⟨0,0,⟨#[]⟩,0⟩,0,2⟩ := by
 unfold zlT;rw [hn]
theorem allL_length (s : ByteArray) : ∀ d at_,(allL s d at_).length ≤ d
 | 0,_ => Nat.le_refl _
 | d + 1,at_ => by
  simp only [allL]
  split
  ·simp only [List.length_cons]
   split
   ·have := allL_length s d (at_ + (zdG (s.extract at_ s.size) at_).size.toNat);omega
   simp
  simp
theorem lexP_length (s : ByteArray) : (lexP s).1.length ≤ s.size := by
 unfold lexP
 split
 ·simp
 split
 ·simp only [zpW];exact allL_length s s.size 0
 simp
theorem bt_app_left (A b : ByteArray) (j : Nat) (h : j < A.size) : bt (A ++ b) (j : Int) = bt A (j : Int) := by
 have h1 : (j : Int).toNat < (A ++ b).size := by rw [ByteArray.size_append,Int.toNat_natCast];omega
 have h2 : (j : Int).toNat < A.size := by rw [Int.toNat_natCast];exact h
 unfold bt
 rw [dif_pos h1,dif_pos h2]
 simp only [Int.toNat_natCast]
 rw [ByteArray.getElem_append_left h]
theorem bt_app_right (A b : ByteArray) (j : Nat) (h : j < b.size) : bt (A ++ b) ((A.size + j : Nat) : Int) = bt b (j : Int) := by
 have h1 : ((A.size + j : Nat) : Int).toNat < (A ++ b).size := by rw [ByteArray.size_append,Int.toNat_natCast];omega
 have h2 : (j : Int).toNat < b.size := by rw [Int.toNat_natCast];exact h
 unfold bt
 rw [dif_pos h1,dif_pos h2]
 simp only [Int.toNat_natCast]
 rw [ByteArray.getElem_append_right (Nat.le_add_right _ _)]
 simp only [Nat.add_sub_cancel_left]
end Go.Proofs.Ythcmfjpheanphaa.Pure
namespace Go.Proofs.Ythcmfjpheanphaa.Pr
open Go.RowKit Go.Proofs.YthcmfjpheanphaaW.PrintWords
def zgY (s : ByteArray) : List S56 × Int × Int :=
 if (lexP s).2.2 ≠ 0 then ([],(lexP s).2.1,(lexP s).2.2)
 else if (runP bld0 (lexP s).1).2.2 ≠ 0 then ([],(runP bld0 (lexP s).1).2.1,(runP bld0 (lexP s).1).2.2)
 else if (runP bld0 (lexP s).1).1.row ≠ [] then ([],s.size,2)
 else ((runP bld0 (lexP s).1).1.t,0,0)
end Go.Proofs.Ythcmfjpheanphaa.Pr
namespace Go.Proofs.Ythcmfjpheanphaa.Pr
open Go.RowKit Go.Proofs.Ythcmfjpheanphaa.Pure Go.Proofs.YthcmfjpheanphaaW.PrintWords
inductive Lx (s : ByteArray) : Nat → List S47 → Prop
 | done : Lx s s.size []
 | more (p : Nat) (x : Spot) (z : Nat) (l : List S47) (hp : p < s.size) (hx : zdG (s.extract p s.size) p = x) (h0 : x.e = 0) (hz : x.size = (z : Int)) (hl : Lx s (p + z) l) : Lx s p (x.l :: l)
theorem Lx_spot {s : ByteArray} {p : Nat} (hp : p < s.size) (h0 : (zdG (s.extract p s.size) p).e = 0) : ∃ z : Nat,(zdG (s.extract p s.size) p).size = z ∧ 1 ≤ z ∧ p + z ≤ s.size := by
 have hok := zyS (s.extract p s.size) p (by rw [ByteArray.size_extract];omega) h0
 rw [ByteArray.size_extract] at hok
 exact ⟨(zdG (s.extract p s.size) p).size.toNat,by omega,by omega,by omega⟩
theorem Lx_go (s : ByteArray) : ∀ (d p : Nat) (acc : List S47),s.size ≤ d + p → p ≤ s.size → (lexGo s d p acc).2.2 = 0 → ∃ l,(lexGo s d p acc).1 = acc ++ l ∧ Lx s p l
 | 0,p,acc,hd,hp,_ => by
  obtain rfl : p = s.size := by omega
  exact ⟨[],by simp [lexGo],.done⟩
 | d + 1,p,acc,hd,hp,h => by
  by_cases hlt : p < s.size
  ·by_cases h0 : (zdG (s.extract p s.size) p).e = 0
   ·obtain ⟨z,hz,h1,h2⟩ := Lx_spot hlt h0
    rw [lexGo_step s d p acc _ hlt rfl z h0 hz] at h ⊢
    obtain ⟨l,hl,hx⟩ := Lx_go s d (p + z) _ (by omega) h2 h
    exact ⟨_,by rw [hl,List.append_assoc];rfl,.more p _ z l hlt rfl h0 hz hx⟩
   rw [lexGo_bad s d p acc _ hlt rfl h0] at h
   exact absurd h h0
  obtain rfl : p = s.size := by omega
  simp only [lexGo]
  rw [if_neg hlt]
  exact ⟨[],by simp,.done⟩
theorem lexP_Lx {s : ByteArray} (h : (lexP s).2.2 = 0) : Lx s 0 (lexP s).1 ∧ s.size ≤ 8192 := by
 by_cases hs : s.size ≤ 8192
 ·rw [lexP_go s hs] at h ⊢
  obtain ⟨l,hl,hx⟩ := Lx_go s s.size 0 [] (by omega) (by omega) h
  rw [hl]
  exact ⟨hx,hs⟩
 unfold lexP at h
 rw [if_pos (by omega)] at h
 cases h
def zrH (N : Nat) (x : S47) : Prop := (x.f0 = 1 ∨ x.f0 = 2 ∨ x.f0 = 3) ∧ 0 ≤ x.f1 ∧ x.f1 ≤ 255 ∧ x.f2.size ≤ N ∧ 0 ≤ x.f3 ∧ x.f3 ≤ N
theorem ydK : ∀ n ∈ zbT,0 ≤ letP n ∧ letP n ≤ 255 := by decide +kernel
theorem yfH {s n : ByteArray} (h : zkR s = some n) : n ∈ zbT := by
 unfold zkR at h
 exact List.mem_of_find?_eq_some h
theorem Lx_ok {s : ByteArray} {p : Nat} {l : List S47} (h : Lx s p l) : ∀ x ∈ l,zrH s.size x := by
 induction h with
 | done => exact fun x hx => by cases hx
 | more p x z l hp hx h0 hz hl ih =>
 intro y hy
 rcases List.mem_cons.1 hy with rfl | hy
 ·by_cases hc : bt s (p : Int) = 125
  ·rw [next_close s p hp hc] at hx
   subst hx
   exact ⟨.inr (.inr rfl),by show (0 : Int) ≤ 0;omega,by show (0 : Int) ≤ 255;omega,Nat.zero_le _,by show (0 : Int) ≤ (p : Int);omega,by show (p : Int) ≤ _;omega⟩
  by_cases h1 : bt s (p : Int) = 123
  ·rw [next_open s p hp h1] at hx
   cases ho : zkR (s.extract p s.size) with
   | none => rw [openP_none s p ho] at hx;subst hx;cases h0
   | some n =>
   unfold zlT at hx
   rw [ho] at hx
   subst hx
   have := ydK n (yfH ho)
   exact ⟨.inr (.inl rfl),this.1,this.2,Nat.zero_le _,by show (0 : Int) ≤ (p : Int);omega,by show (p : Int) ≤ _;omega⟩
  by_cases h3 : zcX (bt s (p : Int)) = true
  ·rw [(next_text s p hp h1 hc h3).2] at hx
   subst hx
   exact ⟨.inl rfl,by show (0 : Int) ≤ 0;omega,by show (0 : Int) ≤ 255;omega,by show (s.extract p (tEnd s p)).size ≤ _;rw [ByteArray.size_extract];omega,by show (0 : Int) ≤ (p : Int);omega,by show (p : Int) ≤ _;omega⟩
  rw [next_bad s p hp h1 hc h3] at hx
  subst hx;cases h0
 exact ih y hy
theorem lexP_ok (s : ByteArray) (h : (lexP s).2.2 = 0) : (∀ x ∈ (lexP s).1,zrH 8192 x) ∧ (lexP s).1.length ≤ 8192 := by
 obtain ⟨h1,h2⟩ := lexP_Lx h
 refine ⟨fun x hx => ?_,Nat.le_trans (lexP_length s) h2⟩
 obtain ⟨k1,k2,k3,k4,k5,k6⟩ := Lx_ok h1 x hx
 exact ⟨k1,k2,k3,by omega,k5,by omega⟩
end Go.Proofs.Ythcmfjpheanphaa.Pr
namespace Go.Proofs.Ythcmfjpheanphaa.Pr
open Go.RowKit Go.Maps Go.Proofs.YthcmfjpheanphaaW.PrintWords
attribute [local go_sem] Oper.semAt_some
theorem yfI (xs : List S56) : ∀ (j : Nat) (p : S56),xs[j]? = some p → ((zaU xs).drop (j * 4)).take 4 = [.int .u8 p.f0,.string p.f1,.int .i64 p.f2,.int .i64 p.f3] := by
 induction xs with
 | nil => intro j p h;simp at h
 | cons x xs ih =>
 intro j p h
 cases j with
 | zero => simp at h;subst h;simp [zaU]
 | succ j =>
 have := ih j p (by simpa using h)
 rw [Nat.succ_mul]
 simp only [zaU,List.flatMap_cons] at this ⊢
 rw [show ∀ l : List Value,(([.int .u8 x.f0,.string x.f1,.int .i64 x.f2,.int .i64 x.f3] : List Value) ++ l).drop (j * 4 + 4) = l.drop (j * 4) from fun l => rfl]
 exact this
theorem zkG {w : World} {base : Nat} {v : Value} {xs : List S56} (h : w.ownsRow base 56 4 v xs.length (zaU xs)) (b' : Nat) (hb : b' ≤ base) : Kd.R k56 56 w b' (fun _ => True) v xs := by
 refine Kd.R_lower (base := base) ⟨fun _ _ => trivial,zaU xs,h,zpG xs,fun j p hp => ?_⟩ hb
 have := yfI xs j p hp
 show k56.M _ _ _ _ (((zaU xs).drop (j * 4)).take 4)
 rw [this]
 exact zmD _ _ _ _
theorem zsO {w w1 : World} {base : Nat} {v : Value} {xs : List S47} (h : Kd.R k47 47 w base (fun _ => True) v xs) (hk : zeB w w1) : Kd.R k47 47 w1 base (fun _ => True) v xs := by
 refine Kd.R_mono (Kd.R_move (Kd.R_bound h) fun k hk' => ?_) fun _ _ => trivial
 obtain ⟨_,_,_,q,hq,cells,hc⟩ := hk'
 have hq' : q = 47 := by
  have e : (k47.E : List Nat) = [] := rfl
  rw [e] at hq
  simpa using hq
 subst hq'
 rw [hc]
 exact hk _ _ hc rfl
def stepF (k : Int) : Nat := if k = 1 then 92 else if k = 2 then 93 else 94
theorem ztT (B0 g m : Nat) (vr vt : Value) (s : Bld) (x : S47) (w : World) (hx : zrH 1000000 x) (hB0 : B0 ≤ w.heap.size) (hn : s.row.length ≤ 999999) (hnt : s.t.length ≤ 999999) (hkb : zfK s.row) (hpos : ztL s) (hch : zfV s.row) (hb : BAt w B0 g m vr vt s) :
  Calls Try.prog (stepF x.f0) #[.pointer (some ⟨g,0,none⟩),.agg #[.int .i64 x.f0,.int .u8 x.f1,.string x.f2,.int .i64 x.f3]] w fun e w' =>
   e = .returned (.tuple #[.int .i64 (zbF s x).2.1,.int .i64 (zbF s x).2.2]) ∧ zfW B0 g m (zbF s x).1 w w' := by
 obtain ⟨h0,h1,h2,h3,_⟩ := hx
 unfold zbF stepF
 by_cases e1 : x.f0 = 1
 ·simp only [if_pos e1]
  exact yaS B0 g m vr vt s x w hB0 h3 hn hnt hkb hb
 simp only [if_neg e1]
 by_cases e2 : x.f0 = 2
 ·simp only [if_pos e2]
  exact yaI B0 g m vr vt s x w hB0 h1 h2 hn hnt hkb hb
 simp only [if_neg e2]
 exact yaK B0 g m vr vt s x w hB0 hn hnt hkb hpos hch hb
structure BOk (s : Bld) (n : Nat) : Prop where
 row : s.row.length ≤ n
 t : s.t.length ≤ n
 kinds : zfK s.row
 pos : ztL s
 chain : zfV s.row
theorem zlW {r : List Opn} (h : zfK r) (f : Opn → Opn) (hf : ∀ o,(f o).kind = o.kind) (j : Nat) : zfK (r.modify j f) := by
 intro o ho
 obtain ⟨y,hy,rfl | rfl⟩ := zlO ho
 ·exact h _ hy
 rw [hf];exact h y hy
theorem yaV {r : List Opn} (h : zfK r) (k : Int) : zfK (zcY r k) := by
 unfold zcY
 split
 ·split
  ·exact zlW h zjM (fun _ => rfl) _
  exact h
 split
 ·exact zlW h zmY (fun _ => rfl) _
 exact h
theorem zyU {s : Bld} {n : Nat} (h : BOk s n) {x : S47} (hx : zrH 1000000 x) : BOk (zbF s x).1 (n + 1) := by
 obtain ⟨h1,h2,h3,h4,h5⟩ := h
 have hl : (zbF s x).1.row.length ≤ n + 1 ∧ (zbF s x).1.t.length ≤ n + 1 ∧ zfK (zbF s x).1.row := by
  unfold zbF
  split
  ·unfold zdW
   split
   ·split
    ·exact ⟨by simp [zhJ];omega,by simp;omega,zlW (zlV h3) (zgJ x.f2.size) (fun _ => rfl) _⟩
    exact ⟨by simp [zhJ];omega,by simp;omega,zlV h3⟩
   split <;> exact ⟨by show s.row.length ≤ _;omega,by show s.t.length ≤ _;omega,h3⟩
  split
  ·unfold zdQ
   split
   ·refine ⟨by simp [zhJ,zhT];omega,by simp;omega,fun o ho => ?_⟩
    simp only [List.mem_append,List.mem_singleton] at ho
    rcases ho with ho | rfl
    ·exact zlV (yaV h3 _) o ho
    exact ⟨hx.2.1,hx.2.2.1⟩
   exact ⟨by show s.row.length ≤ _;omega,by show s.t.length ≤ _;omega,h3⟩
  unfold zdX
  split
  ·exact ⟨by show s.row.length ≤ _;omega,by show s.t.length ≤ _;omega,h3⟩
  have hd : zfK s.row.dropLast := fun o ho => h3 o (List.dropLast_subset _ ho)
  have hwl : ∀ o,((zcW s.row.dropLast o).1).length = s.row.dropLast.length := fun o => by
   unfold zcW
   split
   ·rfl
   split
   ·split
    ·split
     ·exact List.length_modify ..
     rfl
    rfl
   rfl
  refine ⟨by show ((zcW s.row.dropLast _).1).length ≤ _;rw [hwl,List.length_dropLast];omega,by simp;omega,?_⟩
  show zfK (zcW s.row.dropLast (topP s.row)).1
  unfold zcW
  split
  ·exact hd
  split
  ·split
   ·split
    ·exact zlW hd (zhO (topP s.row).kids) (fun _ => rfl) _
    exact hd
   exact hd
  exact hd
 exact ⟨hl.1,hl.2.1,hl.2.2,yeP s x h4,zsA s x h5⟩
theorem ybU : BOk bld0 0 := ⟨Nat.le_refl _,Nat.le_refl _,(by intro o ho;cases ho),(by intro o ho;cases ho),(by intro i hi;simp [bld0] at hi)⟩
theorem zhB {B0 g m : Nat} {s : Bld} {W4 W : World} {b : Bool} (h : cond b (zfW B0 g m s W4 W) (W = W4)) {i : Nat} {o : Obj} (ho : W4.heap[i]? = some o) (hn : isBT o = false) : W.heap[i]? = some o := by
 cases b
 ·obtain rfl : W = W4 := h
  exact ho
 obtain ⟨_,_,_,_,hk⟩ := (show zfW B0 g m s W4 W from h)
 exact hk _ _ ho hn
def ParseTo (a0 : ByteArray) (w : World) (e : Ending) (w' : World) : Prop := ∃ v0_ : Value,e = .returned (.tuple #[v0_,.int .i64 (zgY a0).2.1,.int .i64 (zgY a0).2.2]) ∧ Kd.R k56 56 w' w.heap.size (fun _ => True) v0_ (zgY a0).1 ∧ Below w.heap.size w w'
theorem yfJ {a0 : ByteArray} {l : List S47} {a e : Int} (h : lexP a0 = (l,a,e)) (he : e ≠ 0) : zgY a0 = ([],a,e) := by
 unfold zgY
 rw [h]
 simp only
 rw [if_pos he]
theorem yfK {a0 : ByteArray} {l : List S47} {a : Int} (h : lexP a0 = (l,a,0)) : zgY a0 = if (runP bld0 l).2.2 ≠ 0 then ([],(runP bld0 l).2.1,(runP bld0 l).2.2) else if (runP bld0 l).1.row ≠ [] then ([],a0.size,2) else ((runP bld0 l).1.t,0,0) := by
 unfold zgY
 rw [h]
 simp only
 rw [if_neg (by decide)]
set_option pp.maxSteps 3000 in
theorem yaW (a0 : ByteArray) (w : World) (hs : a0.size ≤ 140737488351232) : Calls Try.prog 53 #[.string a0] w (ParseTo a0 w) := by
 obtain ⟨⟨l,a,e⟩,hl⟩ : ∃ r,lexP a0 = r := ⟨_,rfl⟩
 have hlex := fun W => lex_Of.calls a0 l a e W (by unfold lex_Of.f;rw [hl])
 have HL := Lib.hid hlex
 have HLP := Lib.hid hl
 clear hlex hl
 by_cases he : e = 0
 ·subst he
  have hP := yfK HLP.out
  have HP := Lib.hid hP
  obtain ⟨hok,hlen⟩ := lexP_ok a0 (by rw [HLP.out])
  rw [HLP.out] at hok hlen
  simp only at hok hlen
  have HOK := Lib.hid (fun x hx => show zrH 1000000 x from by
   obtain ⟨k1,k2,k3,k4,k5,k6⟩ := hok x hx
   exact ⟨k1,k2,k3,by omega,k5,by omega⟩)
  clear hP hok
  go_enter Try.func53,Try.ntmps53
  go_wp2_with fail
  refine (HL.out _).mono ?_
  rintro e w1 ⟨v,rfl,hR,hb1⟩
  obtain ⟨A,c,rfl,hc,hC⟩ := Kd.R_reads hR
  have HR := Lib.hid hR
  have HB1 := Lib.hid hb1
  clear hR hb1 hC
  go_wp2_with fail
  refine (zsD w1).mono ?_
  rintro e w2 ⟨g,m,rfl,hb,hb2⟩
  have HB := Lib.hid hb
  have HB2 := Lib.hid hb2
  clear hb hb2
  go_wp2_with fail
  have hW3 : Below w2.heap.size w2 (w2.alloc (.cells #[.nilFunc,.func (.func 92) #[.pointer (some ⟨g,0,none⟩)] #[],.func (.func 93) #[.pointer (some ⟨g,0,none⟩)] #[],.func (.func 94) #[.pointer (some ⟨g,0,none⟩)] #[]] 98)) := (Below.refl _ _).alloc (Nat.le_refl _) _
  have hS3 := zbW w2 (.cells #[.nilFunc,.func (.func 92) #[.pointer (some ⟨g,0,none⟩)] #[],.func (.func 93) #[.pointer (some ⟨g,0,none⟩)] #[],.func (.func 94) #[.pointer (some ⟨g,0,none⟩)] #[]] 98)
  obtain ⟨W3,hW3'⟩ : ∃ W3,w2.alloc (.cells #[.nilFunc,.func (.func 92) #[.pointer (some ⟨g,0,none⟩)] #[],.func (.func 93) #[.pointer (some ⟨g,0,none⟩)] #[],.func (.func 94) #[.pointer (some ⟨g,0,none⟩)] #[]] 98) = W3 := ⟨_,rfl⟩
  rw [hW3'] at hW3 hS3 ⊢
  clear hW3'
  have HB3 := Lib.hid (HB.out.below hW3)
  have HS3 := Lib.hid hS3
  have HR3 := Lib.hid (zsO HR.out (zeB.below (HB2.out.trans (hW3.mono HB2.out.size))))
  have HL3 := Lib.hid (HB1.out.trans ((HB2.out.trans (hW3.mono HB2.out.size)).mono HB1.out.size))
  have hz3 : w1.heap.size ≤ W3.heap.size := Nat.le_trans HB2.out.size hW3.size
  have HZ3 := Lib.hid hz3
  have HZ1 := Lib.hid HB1.out.size
  clear hW3 hS3 HR HB1 HB2 HB
  go_loopw [32] (fun v wr => ∃ (k : Nat) (s : Bld) (vr vt : Value),k ≤ l.length ∧ v = .int .i64 k ∧ BAt wr w1.heap.size g m vr vt s ∧ BOk s k ∧ Below w1.heap.size W3 wr ∧ zeB W3 wr ∧ runP bld0 l = runP s (l.drop k)) (fun v _ => l.length - (intOf v).toNat)
  case atStart => exact ⟨0,bld0,_,_,Nat.zero_le _,rfl,HB3.out,ybU,Below.refl _ _,zeB.refl _,rfl⟩
  case round =>
   obtain ⟨k,s,vr,vt,hk,rfl,hb,hbk,hlow,hkeep,hrun⟩ := hrel
   have HBA := Lib.hid hb
   have HBK := Lib.hid hbk
   have HLO := Lib.hid hlow
   have HKE := Lib.hid hkeep
   have HRU := Lib.hid hrun
   clear hb hbk hlow hkeep hrun
   by_cases hlt : k < l.length
   ·have hlt1 : (k : Int) < (l.length : Int) := by omega
    have hRw := zsO HR3.out HKE.out
    obtain ⟨A',c',he',_,hC⟩ := Kd.R_reads hRw
    simp only [Value.slice.injEq] at he'
    obtain ⟨rfl,-,rfl⟩ := he'
    obtain ⟨ad,e1,q0,q1,q2,q3⟩ := zpO hC k (by omega) (by omega)
    subst e1
    simp only [Int.toNat_natCast] at q0 q1 q2 q3
    have hxl : l[k]? = some (zaI l k) := by
     unfold zaI
     rw [Int.toNat_natCast,List.getD_eq_getElem?_getD,List.getElem?_eq_getElem hlt]
     rfl
    have hxok := HOK.out _ (List.mem_of_getElem? hxl)
    have hdrop : l.drop k = zaI l k :: l.drop (k + 1) := by
     rw [List.drop_eq_getElem_cons hlt]
     rw [List.getElem?_eq_getElem hlt] at hxl
     rw [Option.some.inj hxl]
    have hst := HRU.out
    rw [hdrop] at hst
    have hst2 : runP bld0 l = if (zbF s (zaI l k)).2.2 = 0 then runP (zbF s (zaI l k)).1 (l.drop (k + 1)) else zbF s (zaI l k) := hst
    clear hst hdrop hxl hRw hC
    generalize zaI l k = x at *
    have hstep := fun W (hW : BAt W w1.heap.size g m vr vt s) (hz : w1.heap.size ≤ W.heap.size) => ztT w1.heap.size g m vr vt s x W hxok hz (by have := HBK.out.row;omega) (by have := HBK.out.t;omega) HBK.out.kinds HBK.out.pos HBK.out.chain hW
    have hok2 := zyU HBK.out hxok
    have hf := hxok.1
    obtain ⟨f0,f1,f2,f3⟩ := x
    simp only at hstep q0 q1 q2 q3 hf
    obtain ⟨⟨s',ra,re⟩,hR⟩ : ∃ r,zbF s ⟨f0,f1,f2,f3⟩ = r := ⟨_,rfl⟩
    simp only [hR] at hstep hst2 hok2
    have HST := Lib.hid hstep
    have HS2 := Lib.hid hst2
    have HOK2 := Lib.hid hok2
    clear hstep hst2 hR hok2 hxok
    obtain ⟨W4,hW4⟩ : ∃ W4,(wr.alloc (.cells #[.int .i64 f0,.int .u8 f1,.string f2,.int .i64 f3] 47)).drew = W4 := ⟨_,rfl⟩
    have hb4 : Below wr.heap.size wr W4 := by rw [← hW4];exact zaJ ((Below.refl _ _).alloc (Nat.le_refl _) _)
    have hX4 : W4.heap[wr.heap.size]? = some (.cells #[.int .i64 f0,.int .u8 f1,.string f2,.int .i64 f3] 47 (0,0)) := by rw [← hW4];exact zbW wr _
    have hS4 : W4.heap[w2.heap.size]? = _ := zaG (HKE.out _ _ HS3.out rfl) hb4
    have HX4 := Lib.hid hX4
    have HS4 := Lib.hid hS4
    have HB4 := Lib.hid hb4
    clear hX4 hS4 hb4
    rcases hf with rfl | rfl | rfl
    all_goals
     go_wp2
     refine Go.Mix.region_mix' (fun b W => cond b (zfW w1.heap.size g m s' W4 W) (W = W4)) 5 11 [] (by kernel_rfl) (by kernel_rfl) (fun _ _ _ _ _ h => h) hW4 ?_
     clear hW4 q0 q1 q2 q3
     refine Go.Mix.seqE_nil ?_
     repeat
      apply Go.Mix.seqM_cons (by rfl) (by rfl)
      focus
       intro b W hS
       have hX : W.heap[wr.heap.size]? = _ := zhB hS HX4.out rfl
       have hZ : W.heap[w2.heap.size]? = _ := zhB hS HS4.out rfl
       have x0 := zaB hX 0
       have x1 := zaB hX 1
       have x2 := zaB hX 2
       have x3 := zaB hX 3
       have s1 := zaB hZ 1
       have s2 := zaB hZ 2
       have s3 := zaB hZ 3
       simp only [gzz] at x0 x1 x2 x3 s1 s2 s3
       have HS := Lib.hid hS
       clear hS hX hZ
       go_wp2
       exact Go.Det.AtEnd.mk HS.out
     apply Go.Mix.seqM_main (by rfl)
     focus
      intro W hS
      obtain rfl : W = W4 := hS
      go_wp2_with fail
      refine (HST.out W (HBA.out.below HB4.out) (Nat.le_trans (Nat.le_trans HZ3.out HLO.out.size) HB4.out.size)).mono ?_
      rintro e W5 ⟨rfl,hst⟩
      have HSTT := Lib.hid hst
      clear hst
      go_wp2
      exact Go.Det.AtEnd.mk HSTT.out
     repeat
      apply Go.Mix.seqM_cons (by rfl) (by rfl)
      focus
       intro b W hS
       have HS := Lib.hid hS
       clear hS
       go_wp2
       exact Go.Det.AtEnd.mk HS.out
     refine Go.Mix.seqM_nil ?_
     intro W5 hW5
     obtain ⟨vr5,vt5,hb5,hl5,hk5⟩ := (show zfW w1.heap.size g m s' W4 W5 from hW5)
     clear hW5
     simp only [List.drop_succ_cons,List.drop_zero,Exit.then]
     have HB5 := Lib.hid hb5
     have HL5 := Lib.hid ((HLO.out.trans (zcT HB4.out (Nat.le_trans HZ3.out HLO.out.size))).trans hl5)
     have HK5 := Lib.hid ((HKE.out.trans (zeB.below HB4.out)).trans hk5)
     clear hb5 hl5 hk5
     by_cases hre : re = 0
     ·have hreb : (re != 0) = false := by rw [hre];rfl
      have HRE := Lib.hid hre
      clear hre
      go_wp2
      go_roundw
      case rel => exact ⟨k + 1,s',vr5,vt5,by omega,by go_num,HB5.out,HOK2.out,HL5.out,HK5.out,by rw [HS2.out,if_pos HRE.out]⟩
      case measure => simp [intOf];omega
     ·have hreb : (re != 0) = true := bne_iff_ne.2 hre
      have hPP : zgY a0 = ([],ra,re) := by
       rw [HP.out,HS2.out,if_neg hre]
       simp only
       rw [if_pos hre]
      have HPP := Lib.hid hPP
      have HRE := Lib.hid hre
      clear hre hPP
      go_wp2
      go_ret3
      refine ⟨_,by rw [HPP.out];rfl,by rw [HPP.out];exact Kd.R_nil _ _ _ _ _,?_⟩
      exact HL3.out.trans (HL5.out.mono HZ1.out)
   ·obtain rfl : k = l.length := by omega
    have hlt1 : ¬ (l.length : Int) < (l.length : Int) := by omega
    have hend : runP bld0 l = (s,0,0) := by rw [HRU.out,List.drop_length];rfl
    have hPP : zgY a0 = if s.row ≠ [] then ([],(a0.size : Int),2) else (s.t,0,0) := by rw [HP.out,hend];rfl
    obtain ⟨Ar,cr,rfl⟩ := zbB HBA.out.row
    obtain ⟨At,ct,rfl⟩ := zbB HBA.out.t
    have d0 := zaB HBA.out.blk 0
    have d1 := zaB HBA.out.blk 1
    simp only [gzz] at d0 d1
    by_cases h0 : s.row = []
    ·have h00 : s.row.length = 0 := by rw [h0];rfl
     have hPP2 : zgY a0 = (s.t,0,0) := by rw [hPP,if_neg (by simpa using h0)]
     have HPP := Lib.hid hPP2
     rw [h00] at d0
     clear hPP hPP2 h0 h00 hend
     go_wp2
     go_ret3
     refine ⟨_,by rw [HPP.out];rfl,?_,HL3.out.trans (HLO.out.mono HZ1.out)⟩
     rw [HPP.out]
     exact zkG HBA.out.t _ HZ1.out
    ·have hp : (0 : Int) < (s.row.length : Int) := by have := List.length_pos_iff.2 h0;omega
     have hPP2 : zgY a0 = ([],(a0.size : Int),2) := by rw [hPP,if_pos h0]
     have HPP := Lib.hid hPP2
     clear hPP hPP2 h0 hend
     go_wp2
     go_ret3
     refine ⟨_,by rw [HPP.out];rfl,by rw [HPP.out];exact Kd.R_nil _ _ _ _ _,HL3.out.trans (HLO.out.mono HZ1.out)⟩
 ·have heb : (e != 0) = true := bne_iff_ne.2 he
  have HPP := Lib.hid (yfJ HLP.out he)
  clear he
  go_enter Try.func53,Try.ntmps53
  go_wp2_with fail
  refine (HL.out _).mono ?_
  rintro e' w1 ⟨v,rfl,hR,hb1⟩
  have HB1 := Lib.hid hb1
  clear hR hb1
  go_wp2
  go_ret3
  exact ⟨_,by rw [HPP.out];rfl,by rw [HPP.out];exact Kd.R_nil _ _ _ _ _,HB1.out⟩
def tree_Parse.f (a0 : ByteArray) : Option (List S56 × Int × Int) := if a0.size ≤ 140737488351232 then some (zgY a0) else none
theorem tree_Parse.calls (a0 : ByteArray) (r1 : List S56) (r2 r3 : Int) (w : World) (h : tree_Parse.f a0 = some (r1,r2,r3)) :
  Calls Try.prog 53 #[.string a0] w fun e w' => ∃ v0_ : Value,e = .returned (.tuple #[v0_,.int .i64 r2,.int .i64 r3]) ∧ Kd.R k56 56 w' w.heap.size (fun _ => True) v0_ r1 ∧ Below w.heap.size w w' := by
 unfold tree_Parse.f at h
 by_cases hs : a0.size ≤ 140737488351232
 ·rw [if_pos hs] at h
  have h1 : zgY a0 = (r1,r2,r3) := Option.some.inj h
  refine (yaW a0 w hs).mono ?_
  rintro e w' ⟨v,he,hR,hb⟩
  rw [h1] at he hR
  exact ⟨v,he,hR,hb⟩
 rw [if_neg hs] at h
 cases h
end Go.Proofs.Ythcmfjpheanphaa.Pr
namespace Go.Proofs.Ythcmfjpheanphaa.Pr
open Go.RowKit Go.Proofs.YthcmfjpheanphaaW.PrintWords
attribute [local go_sem] Oper.semAt_some
def oddR (r : Int) : Bool := decide (127 < r) || !zcX r
theorem ztU (s : ByteArray) (i : Nat) (hi : i < s.size) (h : bt s (i : Int) < 128) : Utf8.decode s i = ((bt s (i : Int)).toNat,1) := by
 have hb : bt s (i : Int) = ((s.get! i).toNat : Int) := by
  unfold bt
  rw [dif_pos (by simpa using hi)]
  congr 2
  simp only [Int.toNat_natCast]
  exact (getElem!_pos s.data i hi).symm
 rw [Lib.decode_at]
 unfold Lib.decodeN
 rw [if_pos (by omega),hb,Int.toNat_natCast]
theorem yaX (s : ByteArray) (i : Nat) (hi : i < s.size) (h : ¬ bt s (i : Int) < 128) : 128 ≤ (Utf8.decode s i).1 := by
 have hb : bt s (i : Int) = ((s.get! i).toNat : Int) := by
  unfold bt
  rw [dif_pos (by simpa using hi)]
  congr 2
  simp only [Int.toNat_natCast]
  exact (getElem!_pos s.data i hi).symm
 have h255 : (s.get! i).toNat < 256 := UInt8.toNat_lt _
 rw [Lib.decode_at]
 unfold Lib.decodeN
 repeat' split
 all_goals (simp only;omega)
theorem zwM (r : Int) (h0 : 0 ≤ r) (w : World) : Calls Try.prog 142 #[.int .i32 r] w fun e w' => e = .returned (.bool (oddR r)) ∧ Below w.heap.size w w' := by
 by_cases h1 : 127 < r
 ·have ho : oddR r = true := by unfold oddR;rw [decide_eq_true h1];rfl
  rw [ho]
  go_enter Try.func142,Try.ntmps142
  go_wp2
  go_ret
  exact ⟨rfl,Below.refl _ _⟩
 have h2 : r ≤ 127 := by omega
 have hi := (zsN r h0 (by omega)).2
 have hw := fun w => ziU r h0 (by omega) w
 have ho : oddR r = !zcX r := by unfold oddR;rw [decide_eq_false h1];rfl
 rw [ho]
 unfold zcX
 generalize (!(zfC r == 0) && !(zfC r == 6)) = b1 at *
 generalize zdA r = b2 at *
 have HI := Lib.hid hi
 have HW := Lib.hid hw
 clear hi hw ho
 cases b1
 ·go_enter Try.func142,Try.ntmps142
  go_wp2_with (first | (go_at_call 33;refine (chars_Is.calls r _ _ HI.out).mono ?_;rintro e w1 ⟨rfl,hb⟩) | (go_at_call 35;refine (HW.out _).mono ?_;rintro e w2 ⟨rfl,hb2⟩))
  go_ret
  exact ⟨by simp,hb.trans (hb2.mono hb.size)⟩
 go_enter Try.func142,Try.ntmps142
 go_wp2_with (first | (go_at_call 33;refine (chars_Is.calls r _ _ HI.out).mono ?_;rintro e w1 ⟨rfl,hb⟩) | (go_at_call 35;refine (HW.out _).mono ?_;rintro e w2 ⟨rfl,hb2⟩))
 go_ret
 exact ⟨by simp,hb⟩
theorem zxZ : ∀ n : Fin 256,zcX (n.val : Int) = true → (n.val : Int) < 128 := by decide +kernel
theorem yfL (c : Int) (h0 : 0 ≤ c) (h1 : c ≤ 255) (h : zcX c = true) : c < 128 := by
 have := zxZ ⟨c.toNat,by omega⟩
 simp only [Int.toNat_of_nonneg h0] at this
 exact this h
def zhF (s : ByteArray) : Int := if zaT s s.size 0 < s.size then (zaT s s.size 0 : Nat) else -1
theorem ydL (s : ByteArray) (p : Nat) (h : p < s.size) : zaT s (s.size - p) p = if zcX (bt s (p : Int)) = true then zaT s (s.size - (p + 1)) (p + 1) else p := by
 rw [show s.size - p = (s.size - (p + 1)) + 1 from by omega]
 simp only [zaT]
 by_cases hp : zcX (bt s (p : Int)) = true
 ·rw [if_pos ⟨h,hp⟩,if_pos hp]
 rw [if_neg (fun hh => hp hh.2),if_neg hp]
theorem zvQ (s : ByteArray) (w : World) (hs : s.size ≤ 140737488351232) :
  Calls Try.prog 170 #[.string s,.func (.func 142) #[] #[],.bool true] w fun e w' => e = .returned (.int .i64 (zhF s)) ∧ Below w.heap.size w w' := by
 obtain ⟨R0,hR0⟩ : ∃ R,zaT s s.size 0 = R := ⟨_,rfl⟩
 have hF : zhF s = if R0 < s.size then (R0 : Int) else -1 := by unfold zhF;rw [hR0]
 rw [hF]
 have HR := Lib.hid hR0
 obtain ⟨F0,hF0⟩ : ∃ F,(if R0 < s.size then (R0 : Int) else -1) = F := ⟨_,rfl⟩
 rw [hF0]
 have HF := Lib.hid hF0
 clear hR0 hF hF0
 go_enter Try.func170,Try.ntmps170
 go_wp2
 go_loopg [] s.size (fun gf wx => ∃ pos : Nat,wx.heap[w.heap.size]? = some (.stringIter s pos) ∧ Below w.heap.size w wx ∧ zaT s (s.size - pos) pos = R0 ∧ pos ≤ s.size ∧ s.size ≤ pos + gf)
 case atStart => exact ⟨0,World.iter_heap w s 0,(Below.refl _ w).alloc (Nat.le_refl _) _,HR.out,Nat.zero_le _,by omega⟩
 case round =>
  obtain ⟨pos,hit,hbw,hpl,hps0,hfu⟩ := hrel
  by_cases hps : pos < s.size
  ·obtain ⟨g',rfl⟩ : ∃ g',gk = g' + 1 := ⟨gk - 1,by omega⟩
   have hnx : ∀ ty,(Instr.next (.pointer (some ⟨w.heap.size,0,none⟩)) true ty).run Try.prog wr = _ := fun ty => Lib.run_next_any_at wr w.heap.size s pos ty hit hps
   rw [ydL s pos hps] at hpl
   have hbr := zfZ s pos
   by_cases hp : zcX (bt s (pos : Int)) = true
   ·have hlow : bt s (pos : Int) < 128 := yfL _ hbr.1 hbr.2 hp
    rw [ztU s pos hps hlow] at hnx
    rw [if_pos hp] at hpl
    simp only at hnx
    have hit2 := Lib.iterAt_heap wr w.heap.size s pos (pos + 1) hit
    have hbw2 := Lib.below_iterAt hbw (k := w.heap.size) (Nat.le_refl _) s (pos + 1)
    obtain ⟨W,hWd⟩ : ∃ W,wr.iterAt w.heap.size s (pos + 1) = W := ⟨_,rfl⟩
    rw [hWd] at hnx hit2 hbw2
    have hltW : w.heap.size < W.heap.size := (Array.getElem?_eq_some_iff.1 hit2).1
    have hoc := zwM (((bt s (pos : Int)).toNat : Nat) : Int) (by omega) W
    have ho : oddR (((bt s (pos : Int)).toNat : Nat) : Int) = false := by
     rw [show (((bt s (pos : Int)).toNat : Nat) : Int) = bt s pos from by omega]
     unfold oddR
     rw [hp,decide_eq_false (by omega)]
     rfl
    rw [ho] at hoc
    generalize (bt s (pos : Int)).toNat = c at *
    have HOC := Lib.hid hoc
    have HI2 := Lib.hid hit2
    have HPL := Lib.hid hpl
    clear hoc hit2 hit hpl ho hlow hp hbr hbw
    go_wp2_with (go_at_call 142;refine HOC.out.mono ?_;rintro e W' ⟨rfl,hbc⟩)
    go_roundg g'
    case measure => omega
    case rel => exact ⟨pos + 1,(hbc.block _ hltW).trans HI2.out,hbw2.trans (hbc.mono hbw2.size),HPL.out,by omega,by omega⟩
   ·rw [if_neg hp] at hpl
    obtain ⟨Rn,hRn⟩ : ∃ R,(Utf8.decode s pos).1 = R := ⟨_,rfl⟩
    obtain ⟨K,hK⟩ : ∃ K,(Utf8.decode s pos).2 = K := ⟨_,rfl⟩
    have hodd : oddR (Rn : Int) = true := by
     by_cases hlow : bt s (pos : Int) < 128
     ·rw [ztU s pos hps hlow] at hRn
      simp only at hRn
      have hpf : zcX (bt s (pos : Int)) = false := by simpa using hp
      unfold oddR
      rw [show ((Rn : Nat) : Int) = bt s pos from by omega,hpf]
      simp
     ·have := yaX s pos hps hlow
      unfold oddR
      rw [decide_eq_true (by omega)]
      rfl
    rw [hRn,hK] at hnx
    have hbw2 := Lib.below_iterAt hbw (k := w.heap.size) (Nat.le_refl _) s (pos + K)
    obtain ⟨W,hWd⟩ : ∃ W,wr.iterAt w.heap.size s (pos + K) = W := ⟨_,rfl⟩
    rw [hWd] at hnx hbw2
    have hoc := zwM (Rn : Int) (by omega) W
    rw [hodd] at hoc
    have hres : F0 = (pos : Int) := by rw [← HF.out,← hpl,if_pos hps]
    have HRES := Lib.hid hres
    have HOC := Lib.hid hoc
    clear hoc hit hpl hp hbr hbw hodd hRn hK hres
    go_wp2_with (go_at_call 142;refine HOC.out.mono ?_;rintro e W' ⟨rfl,hbc⟩)
    go_ret
    exact ⟨by rw [HRES.out];rfl,hbw2.trans (hbc.mono hbw2.size)⟩
  ·have hnx : ∀ ty,(Instr.next (.pointer (some ⟨w.heap.size,0,none⟩)) true ty).run Try.prog wr = _ := fun ty => Lib.run_next_end_at wr w.heap.size s pos ty hit hps
   have hR : R0 = s.size := by
    obtain rfl : pos = s.size := by omega
    rw [Nat.sub_self] at hpl
    simpa [zaT] using hpl.symm
   have hres : F0 = -1 := by rw [← HF.out,if_neg (by omega)]
   have HRES := Lib.hid hres
   clear hpl hit hR hres
   go_wp2
   go_ret
   exact ⟨by rw [HRES.out];rfl,hbw⟩
theorem zrS (s : ByteArray) (w : World) (hs : s.size ≤ 140737488351232) :
  Calls Try.prog 143 #[.string s,.func (.func 142) #[] #[]] w fun e w' => e = .returned (.bool (decide (0 ≤ zhF s))) ∧ Below w.heap.size w w' := by
 have h1 := fun W => zvQ s W hs
 generalize zhF s = F at *
 have H1 := Lib.hid h1
 clear h1
 have key : ∀ W,Calls Try.prog 164 #[.string s,.func (.func 142) #[] #[]] W fun e w' => e = .returned (.int .i64 F) ∧ Below W.heap.size W w' := fun W => by
  go_enter Try.func164,Try.ntmps164
  go_wp2_with (go_at_call 170;refine (H1.out _).mono ?_;rintro e w' ⟨rfl,hb⟩)
  go_ret
  exact ⟨rfl,hb⟩
 have HK := Lib.hid key
 clear key
 go_enter Try.func143,Try.ntmps143
 go_wp2_with (go_at_call 164;refine (HK.out _).mono ?_;rintro e w' ⟨rfl,hb⟩)
 go_ret
 exact ⟨rfl,hb⟩
def zdS (x : S56) : Bool := if x.f0 = 46 then decide (0 < x.f1.size) && (x.f3 == 1 && !decide (0 ≤ zhF x.f1)) else decide (x.f1.size = 0) && decide (0 < (zjR x.f0).size)
theorem zyV (x : S56) (w : World) (hs : x.f1.size ≤ 140737488351232) :
  Calls Try.prog 101 #[.agg #[.int .u8 x.f0,.string x.f1,.int .i64 x.f2,.int .i64 x.f3]] w fun e w' => e = .returned (.bool (zdS x)) ∧ Below w.heap.size w w' := by
 obtain ⟨f0,f1,f2,f3⟩ := x
 simp only at hs
 have hb0 : Below w.heap.size w (w.alloc (.cells #[.int .u8 f0,.string f1,.int .i64 f2,.int .i64 f3] 56)) := (Below.refl _ _).alloc (Nat.le_refl _) _
 have HB := Lib.hid hb0
 obtain ⟨B,hB⟩ : ∃ B,zdS ⟨f0,f1,f2,f3⟩ = B := ⟨_,rfl⟩
 rw [hB]
 unfold zdS at hB
 simp only at hB
 have HBB := Lib.hid hB
 have HC := Lib.hid (fun W => zrS f1 W hs)
 have HN := Lib.hid (fun W => ydD f0 W)
 clear hb0 hB
 by_cases h46 : f0 = 46
 ·rw [if_pos h46] at HBB
  subst h46
  by_cases hz : f1.size = 0
  ·have e1 : f1.toList = [] := by have := zeR f1;rw [decide_eq_true hz] at this;simpa using this
   have e2 : f1.toList.isEmpty = true := by rw [e1];rfl
   have HB2 := Lib.hid (show B = false from by rw [← HBB.out,decide_eq_false (by omega)];rfl)
   clear hz
   go_enter Try.func101,Try.ntmps101
   go_wp2
   go_ret
   exact ⟨by rw [HB2.out];rfl,HB.out⟩
  have e2 : f1.toList.isEmpty = false := by rw [zeR,decide_eq_false hz]
  have e1 : f1.toList ≠ [] := fun e => by rw [e] at e2;cases e2
  by_cases h3 : f3 = 1
  ·subst h3
   have HB2 := Lib.hid (show B = !decide (0 ≤ zhF f1) from by rw [← HBB.out,decide_eq_true (by omega)];simp)
   generalize decide (0 ≤ zhF f1) = c at *
   clear hz
   go_enter Try.func101,Try.ntmps101
   go_wp2_with (go_at_call 143;refine (HC.out _).mono ?_;rintro e w' ⟨rfl,hb⟩)
   go_ret
   exact ⟨by rw [HB2.out];rfl,HB.out.trans (hb.mono HB.out.size)⟩
  have h3b : (f3 == 1) = false := beq_eq_false_iff_ne.2 h3
  have HB2 := Lib.hid (show B = false from by rw [← HBB.out,decide_eq_true (by omega),h3b];rfl)
  clear hz h3
  go_enter Try.func101,Try.ntmps101
  go_wp2
  go_ret
  exact ⟨by rw [HB2.out];rfl,HB.out⟩
 rw [if_neg h46] at HBB
 have h46b : (f0 == 46) = false := beq_eq_false_iff_ne.2 h46
 have h46c : (f0 != 46) = true := bne_iff_ne.2 h46
 clear h46
 by_cases hz : f1.size = 0
 ·have e1 : f1.toList = [] := by have := zeR f1;rw [decide_eq_true hz] at this;simpa using this
  have e2 : f1.toList.isEmpty = true := by rw [e1];rfl
  obtain ⟨nm,hnm⟩ : ∃ nm,zjR f0 = nm := ⟨_,rfl⟩
  rw [hnm] at HBB
  simp only [hnm] at HN
  clear hnm
  by_cases hnz : nm.size = 0
  ·have n2 : nm.toList.isEmpty = true := by rw [zeR,decide_eq_true hnz]
   have n1 : nm.toList = [] := by simpa using n2
   have HB2 := Lib.hid (show B = false from by rw [← HBB.out,decide_eq_false (p := 0 < nm.size) (by omega)];simp)
   clear hz hnz
   go_enter Try.func101,Try.ntmps101
   go_wp2_with (go_at_call 48;refine (HN.out _).mono ?_;rintro e w' ⟨rfl,hb⟩)
   go_ret
   exact ⟨by rw [HB2.out];rfl,HB.out.trans (hb.mono HB.out.size)⟩
  have n2 : nm.toList.isEmpty = false := by rw [zeR,decide_eq_false hnz]
  have n1 : nm.toList ≠ [] := fun e => by rw [e] at n2;cases n2
  have HB2 := Lib.hid (show B = true from by rw [← HBB.out,decide_eq_true hz,decide_eq_true (p := 0 < nm.size) (by omega)];rfl)
  clear hz hnz
  go_enter Try.func101,Try.ntmps101
  go_wp2_with (go_at_call 48;refine (HN.out _).mono ?_;rintro e w' ⟨rfl,hb⟩)
  go_ret
  exact ⟨by rw [HB2.out];rfl,HB.out.trans (hb.mono HB.out.size)⟩
 have e2 : f1.toList.isEmpty = false := by rw [zeR,decide_eq_false hz]
 have e1 : f1.toList ≠ [] := fun e => by rw [e] at e2;cases e2
 have HB2 := Lib.hid (show B = false from by rw [← HBB.out,decide_eq_false hz];rfl)
 clear hz
 go_enter Try.func101,Try.ntmps101
 go_wp2
 go_ret
 exact ⟨by rw [HB2.out];rfl,HB.out⟩
theorem zyW (x : S56) (w : World) (hs : x.f1.size ≤ 140737488351232) :
  Calls Try.prog 100 #[.agg #[.int .u8 x.f0,.string x.f1,.int .i64 x.f2,.int .i64 x.f3]] w fun e w' => e = .returned (.bool (!zdS x)) ∧ Below w.heap.size w w' := by
 have hp := fun W => zyV x W hs
 obtain ⟨f0,f1,f2,f3⟩ := x
 generalize zdS ⟨f0,f1,f2,f3⟩ = b at *
 have HP := Lib.hid hp
 have HB := Lib.hid (show Below w.heap.size w (w.alloc (.cells #[.int .u8 f0,.string f1,.int .i64 f2,.int .i64 f3] 56)) from (Below.refl _ _).alloc (Nat.le_refl _) _)
 clear hp
 go_enter Try.func100,Try.ntmps100
 go_wp2_with (go_at_call 101;refine (HP.out _).mono ?_;rintro e w' ⟨rfl,hb⟩)
 go_ret
 exact ⟨rfl,HB.out.trans (hb.mono HB.out.size)⟩
def zjT : List S56 → Int → Int
 | [],_ => -1
 | x :: xs,i => if zdS x = true then zjT xs (i + 1) else i
theorem zwN : ∀ (xs : List S56) (i : Int),0 ≤ i → decide (0 ≤ zjT xs i) = xs.any fun x => !zdS x
 | [],i,h => by simp [zjT]
 | x :: xs,i,h => by
  rw [List.any_cons]
  by_cases hp : zdS x = true
  ·rw [show zjT (x :: xs) i = zjT xs (i + 1) from if_pos hp,zwN xs (i + 1) (by omega),hp];rfl
  have hq : zdS x = false := by simpa using hp
  rw [show zjT (x :: xs) i = i from if_neg hp,decide_eq_true h,hq];rfl
theorem zoR (xs : List S56) (k : Nat) (h : k < xs.length) : xs.drop k = zaA xs k :: xs.drop (k + 1) := by
 rw [List.drop_eq_getElem_cons h]
 congr 1
 unfold zaA
 rw [Int.toNat_natCast,List.getD_eq_getElem?_getD,List.getElem?_eq_getElem h]
 rfl
theorem zsP (xs : List S56) (k : Nat) (h : k < xs.length) : zaA xs k ∈ xs := by
 unfold zaA
 rw [Int.toNat_natCast,List.getD_eq_getElem?_getD,List.getElem?_eq_getElem h]
 exact List.getElem_mem h
theorem zyX (A : Option Addr) (c : Nat) (xs : List S56) (w : World) (hx : xs.length ≤ 140737488351232) (hz : ∀ x ∈ xs,x.f1.size ≤ 140737488351232) (hA : Kd.C k56 w A xs.length xs) :
  Calls Try.prog 141 #[.slice A xs.length c,.func (.func 100) #[] #[]] w fun e w' => e = .returned (.int .i64 (zjT xs 0)) ∧ Below w.heap.size w w' := by
 have HA := Lib.hid hA
 have HZ := Lib.hid hz
 obtain ⟨F,hF⟩ : ∃ F,zjT xs 0 = F := ⟨_,rfl⟩
 rw [hF]
 have HF := Lib.hid hF
 obtain ⟨n,hn⟩ : ∃ n,xs.length = n := ⟨_,rfl⟩
 rw [hn] at hx ⊢
 have HN := Lib.hid hn
 clear hA hz hF hn
 go_enter Try.func141,Try.ntmps141
 go_wp2
 go_loopw [8] (fun v wr => ∃ k : Nat,k ≤ n ∧ v = .int .i64 k ∧ Below w.heap.size w wr ∧ zjT (xs.drop k) k = F) (fun v _ => n - (intOf v).toNat)
 case atStart => exact ⟨0,Nat.zero_le _,rfl,Below.refl _ _,HF.out⟩
 case round =>
  obtain ⟨k,hk,rfl,hB,hs⟩ := hrel
  by_cases hlt : k < n
  ·have hlt1 : (k : Int) < (n : Int) := by omega
   rw [zoR xs k (by have := HN.out;omega)] at hs
   obtain ⟨ad,e1,q0,q1,q2,q3⟩ := zeN (Kd.C_below HA.out hB) k (by omega) (by have := HN.out;omega)
   subst e1
   simp only [Int.toNat_natCast] at q0 q1 q2 q3
   have hc := fun W => zyW (zaA xs k) W (HZ.out _ (zsP xs k (by have := HN.out;omega)))
   generalize zaA xs k = x at *
   obtain ⟨f0,f1,f2,f3⟩ := x
   simp only at q0 q1 q2 q3
   have hs' : (if zdS ⟨f0,f1,f2,f3⟩ = true then zjT (xs.drop (k + 1)) ((k : Int) + 1) else (k : Int)) = F := hs
   obtain ⟨b,hb⟩ : ∃ b,zdS ⟨f0,f1,f2,f3⟩ = b := ⟨_,rfl⟩
   rw [hb] at hs'
   simp only [hb] at hc
   have HS := Lib.hid hs'
   have HC := Lib.hid hc
   clear hs hs' hc hb
   cases b
   ·go_wp2_with (go_at_call 100;refine (HC.out _).mono ?_;rintro e w2 ⟨rfl,hb2⟩)
    go_ret
    exact ⟨by rw [← HS.out];rfl,hB.trans (hb2.mono hB.size)⟩
   ·go_wp2_with (go_at_call 100;refine (HC.out _).mono ?_;rintro e w2 ⟨rfl,hb2⟩)
    go_roundw
    case rel => exact ⟨k + 1,by omega,by go_num,hB.trans (hb2.mono hB.size),by rw [← HS.out];simp only [if_true];congr 1⟩
    case measure => simp [intOf];omega
  ·obtain rfl : k = n := by omega
   have hlt1 : ¬ (k : Int) < (k : Int) := by omega
   have hR : F = -1 := by
    rw [← hs,List.drop_of_length_le (by have := HN.out;omega)]
    rfl
   subst hR
   clear hs
   go_wp2
   go_ret
   exact ⟨rfl,hB⟩
theorem ztV (A : Option Addr) (c : Nat) (xs : List S56) (w : World) (hx : xs.length ≤ 140737488351232) (hz : ∀ x ∈ xs,x.f1.size ≤ 140737488351232) (hA : Kd.C k56 w A xs.length xs) :
  Calls Try.prog 99 #[.slice A xs.length c,.func (.func 100) #[] #[]] w fun e w' => e = .returned (.bool (xs.any fun x => !zdS x)) ∧ Below w.heap.size w w' := by
 have h1 := zyX A c xs w hx hz hA
 rw [← zwN xs 0 (Int.le_refl _)]
 generalize zjT xs 0 = F at *
 have H1 := Lib.hid h1
 clear h1 hA hz
 go_enter Try.func99,Try.ntmps99
 go_wp2_with (go_at_call 141;refine H1.out.mono ?_;rintro e w' ⟨rfl,hb⟩)
 go_ret
 exact ⟨rfl,hb⟩
def zfL (a b : Int) : List Int → Int
 | [] => 0
 | e :: l => if (a == e || b == e) = true then e else zfL a b l
def zeE (a b : Int) : Int := zfL a b [2,5,4]
theorem yaY (a b : Int) (w : World) : Calls Try.prog 105 #[.int .i64 a,.int .i64 b] w fun e w' => e = .returned (.int .i64 (zeE a b)) ∧ w' = w := by
 obtain ⟨F,hF⟩ : ∃ F,zeE a b = F := ⟨_,rfl⟩
 rw [hF]
 have HF := Lib.hid (show zfL a b ([2,5,4].drop 0) = F from hF)
 have i0 : ∀ W : World,(Instr.index 170 (.agg #[.int .i64 2,.int .i64 5,.int .i64 4]) (.int .i64 0)).run Try.prog W = .ok (.int .i64 2) W := fun W => by rfl
 have i1 : ∀ W : World,(Instr.index 170 (.agg #[.int .i64 2,.int .i64 5,.int .i64 4]) (.int .i64 1)).run Try.prog W = .ok (.int .i64 5) W := fun W => by rfl
 have i2 : ∀ W : World,(Instr.index 170 (.agg #[.int .i64 2,.int .i64 5,.int .i64 4]) (.int .i64 2)).run Try.prog W = .ok (.int .i64 4) W := fun W => by rfl
 clear hF
 go_enter Try.func105,Try.ntmps105
 go_wp2
 go_loop [8] (fun v => ∃ k : Nat,k ≤ 3 ∧ v = .int .i64 k ∧ zfL a b ([2,5,4].drop k) = F) (fun v => 3 - (intOf v).toNat)
 case atStart => exact ⟨0,by omega,rfl,HF.out⟩
 case round =>
  obtain ⟨k,hk,rfl,hw⟩ := hrel
  have hcase : k = 0 ∨ k = 1 ∨ k = 2 ∨ k = 3 := by omega
  rcases hcase with rfl | rfl | rfl | rfl
  ·have HW := Lib.hid hw
   clear hw
   cases ha : (a == 2)
   ·cases hb : (b == 2)
    ·go_wp2
     go_round
     case rel => exact ⟨1,by omega,rfl,by rw [← HW.out];simp [zfL,ha,hb]⟩
     case measure => simp [intOf]
    ·go_wp2
     go_ret
     exact ⟨by rw [← HW.out];simp [zfL,hb],rfl⟩
   ·go_wp2
    go_ret
    exact ⟨by rw [← HW.out];simp [zfL,ha],rfl⟩
  ·have HW := Lib.hid hw
   clear hw
   cases ha : (a == 5)
   ·cases hb : (b == 5)
    ·go_wp2
     go_round
     case rel => exact ⟨2,by omega,rfl,by rw [← HW.out];simp [zfL,ha,hb]⟩
     case measure => simp [intOf]
    ·go_wp2
     go_ret
     exact ⟨by rw [← HW.out];simp [zfL,hb],rfl⟩
   ·go_wp2
    go_ret
    exact ⟨by rw [← HW.out];simp [zfL,ha],rfl⟩
  ·have HW := Lib.hid hw
   clear hw
   cases ha : (a == 4)
   ·cases hb : (b == 4)
    ·go_wp2
     go_round
     case rel => exact ⟨3,by omega,rfl,by rw [← HW.out];simp [zfL,ha,hb]⟩
     case measure => simp [intOf]
    ·go_wp2
     go_ret
     exact ⟨by rw [← HW.out];simp [zfL,hb],rfl⟩
   ·go_wp2
    go_ret
    exact ⟨by rw [← HW.out];simp [zfL,ha],rfl⟩
  ·have hR : F = 0 := by rw [← hw];rfl
   subst hR
   clear hw
   go_wp2
   go_ret
   exact ⟨rfl,rfl⟩
end Go.Proofs.Ythcmfjpheanphaa.Pr
