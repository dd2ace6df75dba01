/- Texts of this seat, one behind the other. -/
import Derived.Test.YthcmfjpheanphaaXNormForms10
set_option linter.unusedVariables false
set_option linter.unusedSimpArgs false
set_option maxHeartbeats 16000000
set_option maxRecDepth 100000
namespace Go.Proofs.Ythcmfjpheanphaa.Pr
open Go.RowKit Go.Maps Go.Proofs.YthcmfjpheanphaaW.PrintWords
def zbL (x : S159) : List Value := [.int .u8 x.f0,.string x.f1,.int .i64 x.f2,.int .i64 x.f3,.int .i64 x.f4,.string x.f5]
def zdJ (x : S56) : List Value := [.int .u8 x.f0,.string x.f1,.int .i64 x.f2,.int .i64 x.f3]
def zeD (xs : List S159) : List Value := xs.flatMap zbL
theorem zmQ (xs : List S159) : (zeD xs).length = xs.length * 6 := by
 induction xs with
 | nil => rfl
 | cons x xs ih => simp [zeD,zbL] at ih ⊢;omega
theorem zuV (xs : List S159) (x : S159) : zeD (xs ++ [x]) = zeD xs ++ zbL x := by simp [zeD]
theorem ziO (x : S159) (xs : List S159) : zeD (x :: xs) = zbL x ++ zeD xs := by simp [zeD]
theorem yiZ (xs : List S159) : ∀ (j i : Nat),j < xs.length → i < 6 → (zeD xs)[j * 6 + i]? = (zbL (xs.getD j z159))[i]? := by
 induction xs with
 | nil => intro j i h;simp at h
 | cons x xs ih =>
 intro j i h hi
 rw [ziO]
 cases j with
 | zero => rw [List.getElem?_append_left (by simp [zbL];omega)];simp
 | succ j =>
 rw [List.getElem?_append_right (by simp [zbL];omega)]
 have := ih j i (by simpa using h) hi
 rw [show (j + 1) * 6 + i - (zbL x).length = j * 6 + i from by simp [zbL];omega,this]
 simp
theorem zxD (f : S159 → S159) (i : Nat) (hi : i < 6) (u : Value) : ∀ (xs : List S159) (j : Nat),j < xs.length → zbL (f (xs.getD j z159)) = (zbL (xs.getD j z159)).set i u → (zeD xs).set (j * 6 + i) u = zeD (xs.modify j f)
 | [],j,h,_ => by simp at h
 | x :: xs,0,h,hf => by
  rw [ziO,List.modify_zero_cons,ziO,List.set_append_left _ _ (by simp [zbL];omega),Nat.zero_mul,Nat.zero_add]
  simp only [List.getD_cons_zero] at hf
  rw [hf]
 | x :: xs,j + 1,h,hf => by
  rw [ziO,List.modify_succ_cons,ziO,List.set_append_right _ _ (by simp [zbL];omega)]
  rw [show (j + 1) * 6 + i - (zbL x).length = j * 6 + i from by simp [zbL];omega]
  rw [zxD f i hi u xs j (by simpa using h) (by simpa using hf)]
theorem ydW (xs : List S56) (x : S56) : zaU (xs ++ [x]) = zaU xs ++ zdJ x := by simp [zaU,zdJ]
theorem zjW (x : S56) (xs : List S56) : zaU (x :: xs) = zdJ x ++ zaU xs := by simp [zaU,zdJ]
theorem yjA (xs : List S56) : ∀ (j i : Nat),j < xs.length → i < 4 → (zaU xs)[j * 4 + i]? = (zdJ (xs.getD j z56))[i]? := by
 induction xs with
 | nil => intro j i h;simp at h
 | cons x xs ih =>
 intro j i h hi
 rw [zjW]
 cases j with
 | zero => rw [List.getElem?_append_left (by simp [zdJ];omega)];simp
 | succ j =>
 rw [List.getElem?_append_right (by simp [zdJ];omega)]
 have := ih j i (by simpa using h) hi
 rw [show (j + 1) * 4 + i - (zdJ x).length = j * 4 + i from by simp [zdJ];omega,this]
 simp
theorem zxE (f : S56 → S56) (i : Nat) (hi : i < 4) (u : Value) : ∀ (xs : List S56) (j : Nat),j < xs.length → zdJ (f (xs.getD j z56)) = (zdJ (xs.getD j z56)).set i u → (zaU xs).set (j * 4 + i) u = zaU (xs.modify j f)
 | [],j,h,_ => by simp at h
 | x :: xs,0,h,hf => by
  rw [zjW,List.modify_zero_cons,zjW,List.set_append_left _ _ (by simp [zdJ];omega),Nat.zero_mul,Nat.zero_add]
  simp only [List.getD_cons_zero] at hf
  rw [hf]
 | x :: xs,j + 1,h,hf => by
  rw [zjW,List.modify_succ_cons,zjW,List.set_append_right _ _ (by simp [zdJ];omega)]
  rw [show (j + 1) * 4 + i - (zdJ x).length = j * 4 + i from by simp [zdJ];omega]
  rw [zxE f i hi u xs j (by simpa using h) (by simpa using hf)]
def Row9 (W : World) (B0 : Nat) (v : Value) (r : List S159) : Prop := W.ownsRow B0 159 6 v r.length (zeD r)
def Row6 (W : World) (B0 : Nat) (v : Value) (t : List S56) : Prop := W.ownsRow B0 56 4 v t.length (zaU t)
theorem zzT {W : World} {B0 n e z : Nat} {v : Value} {xs : List Value} (h : W.ownsRow B0 e z v n xs) (hn : 0 < n) : ∃ g c,v = .slice (some ⟨g,0,none⟩) n c := by
 obtain ⟨A,c,rfl⟩ := zbB h
 rcases h.2 with ⟨_,h0⟩ | ⟨g,cap,cur,e,_⟩
 ·omega
 simp only [Value.slice.injEq] at e
 obtain ⟨rfl,_,rfl⟩ := e
 exact ⟨g,_,rfl⟩
theorem zgP {W : World} {B0 g c n : Nat} {r : List S159} (h : Row9 W B0 (.slice (some ⟨g,0,none⟩) n c) r) (j i : Nat) (hj : j < r.length) (hi : i < 6) : W.cell? ⟨g,j * 6 + i,none⟩ = (zbL (r.getD j z159))[i]? := by
 have hn : n = r.length := by
  obtain ⟨A,c',e⟩ := zbB h
  simp only [Value.slice.injEq] at e
  exact e.2.1
 subst hn
 rw [World.ownsRow.cellAt h (j * 6 + i) (by omega),yiZ r j i hj hi]
theorem ygF {W : World} {B0 g c n : Nat} {t : List S56} (h : Row6 W B0 (.slice (some ⟨g,0,none⟩) n c) t) (j i : Nat) (hj : j < t.length) (hi : i < 4) : W.cell? ⟨g,j * 4 + i,none⟩ = (zdJ (t.getD j z56))[i]? := by
 have hn : n = t.length := by
  obtain ⟨A,c',e⟩ := zbB h
  simp only [Value.slice.injEq] at e
  exact e.2.1
 subst hn
 rw [World.ownsRow.cellAt h (j * 4 + i) (by omega),yjA t j i hj hi]
structure RAt (W : World) (B0 : Nat) (vr vt : Value) (s : RSt) : Prop where
 row : Row9 W B0 vr s.r
 t : Row6 W B0 vt s.t
theorem RAt.below {W W' : World} {B0 : Nat} {vr vt : Value} {s : RSt} (h : RAt W B0 vr vt s) (hb : Below W.heap.size W W') : RAt W' B0 vr vt s := ⟨zcI h.row hb,zcI h.t hb⟩
theorem zwB {W : World} {B0 n m e z : Nat} {A : Option Addr} {c : Nat} {xs : List Value} (h : W.ownsRow B0 e z (.slice A n c) m xs) : n = m := by
 obtain ⟨A',c',e⟩ := zbB h
 simp only [Value.slice.injEq] at e
 exact e.2.1
theorem RAt.setR {W : World} {B0 gr c n : Nat} {vt : Value} {s : RSt} (h : RAt W B0 (.slice (some ⟨gr,0,none⟩) n c) vt s) (j i : Nat) (hj : j < s.r.length) (hi : i < 6) (f : S159 → S159) (u : Value) (hf : zbL (f (s.r.getD j z159)) = (zbL (s.r.getD j z159)).set i u) :
  RAt (W.setCell ⟨gr,j * 6 + i,none⟩ u) B0 (.slice (some ⟨gr,0,none⟩) n c) vt ⟨s.t,s.r.modify j f⟩ ∧ Below B0 W (W.setCell ⟨gr,j * 6 + i,none⟩ u) ∧ W.frozen? ⟨gr,j * 6 + i,none⟩ = false := by
 obtain rfl := zwB h.row
 have hb0 := zcZ h.row gr rfl
 refine ⟨⟨?_,?_⟩,(Below.refl B0 W).setCell hb0 _,World.ownsRow.frozenAt h.row _⟩
 ·have := (World.ownsRow.stored h.row (j * 6 + i) u).1
  rw [zxD f i hi u s.r j hj hf] at this
  unfold Row9
  simp only [List.length_modify]
  exact this
 refine zcG h.t ?_ _
 rcases zeL h.row h.t (by decide) with h0 | h0
 ·cases h0
 exact h0
theorem RAt.setT {W : World} {B0 gt c n : Nat} {vr : Value} {s : RSt} (h : RAt W B0 vr (.slice (some ⟨gt,0,none⟩) n c) s) (j i : Nat) (hj : j < s.t.length) (hi : i < 4) (f : S56 → S56) (u : Value) (hf : zdJ (f (s.t.getD j z56)) = (zdJ (s.t.getD j z56)).set i u) :
  RAt (W.setCell ⟨gt,j * 4 + i,none⟩ u) B0 vr (.slice (some ⟨gt,0,none⟩) n c) ⟨s.t.modify j f,s.r⟩ ∧ Below B0 W (W.setCell ⟨gt,j * 4 + i,none⟩ u) ∧ W.frozen? ⟨gt,j * 4 + i,none⟩ = false := by
 obtain rfl := zwB h.t
 have hb0 := zcZ h.t gt rfl
 refine ⟨⟨?_,?_⟩,(Below.refl B0 W).setCell hb0 _,World.ownsRow.frozenAt h.t _⟩
 ·refine zcG h.row ?_ _
  rcases zeL h.t h.row (by decide) with h0 | h0
  ·cases h0
  exact h0
 have := (World.ownsRow.stored h.t (j * 4 + i) u).1
 rw [zxE f i hi u s.t j hj hf] at this
 unfold Row6
 simp only [List.length_modify]
 exact this
theorem zqQ {W W4 : World} {B0 : Nat} {o : Obj} {vr vt v' : Value} {s : RSt} {x : S56} (h : RAt W B0 vr vt s) (hg : (W.alloc o).grownBy W4 vt.ownBlock) (ho : W4.ownsRow B0 56 4 v' (s.t.length + 1) (zaU s.t ++ zdJ x)) : RAt W4 B0 vr v' ⟨s.t ++ [x],s.r⟩ := by
 refine ⟨zlA (zgG h.row _) hg (zeL h.row h.t (by decide)),?_⟩
 unfold Row6
 simp only [List.length_append,List.length_cons,List.length_nil]
 rw [ydW]
 exact ho
theorem zxF {W W4 : World} {B0 : Nat} {o : Obj} {vr vt v' : Value} {s : RSt} {x : S159} (h : RAt W B0 vr vt s) (hg : (W.alloc o).grownBy W4 vr.ownBlock) (ho : W4.ownsRow B0 159 6 v' (s.r.length + 1) (zeD s.r ++ zbL x)) : RAt W4 B0 v' vt ⟨s.t,s.r ++ [x]⟩ := by
 refine ⟨?_,zlA (zgG h.t _) hg (zeL h.t h.row (by decide))⟩
 unfold Row9
 simp only [List.length_append,List.length_cons,List.length_nil]
 rw [zuV]
 exact ho
theorem zzU {w : World} {base : Nat} {v : Value} {xs : List S159} (h : Row9 w base v xs) (b' : Nat) (hb : b' ≤ base) : Kd.R k159 159 w b' (fun _ => True) v xs := by
 refine Kd.R_lower (base := base) ⟨fun _ _ => trivial,zeD xs,h,zmQ xs,fun j p hp => ?_⟩ hb
 have : ((zeD xs).drop (j * 6)).take 6 = zbL p := by
  have go : ∀ (xs : List S159) (j : Nat) (p : S159),xs[j]? = some p → ((zeD xs).drop (j * 6)).take 6 = zbL p := by
   intro xs
   induction xs with
   | nil => intro j p h;simp at h
   | cons x xs ih =>
   intro j p h
   cases j with
   | zero => simp at h;subst h;simp [zeD,zbL]
   | succ j =>
   have := ih j p (by simpa using h)
   rw [ziO,Nat.succ_mul,Nat.add_comm,← List.drop_drop]
   have e : (zbL x ++ zeD xs).drop 6 = zeD xs := by simp [zbL]
   rw [e]
   exact this
  exact go xs j p hp
 show k159.M _ _ _ _ (((zeD xs).drop (j * 6)).take 6)
 rw [this]
 exact yhM _ _ _ _
theorem RAt.reads {W : World} {B0 n c : Nat} {A : Option Addr} {vt : Value} {s : RSt} (h : RAt W B0 (.slice A n c) vt s) : n = s.r.length ∧ n ≤ c ∧ Kd.C k159 W A s.r.length s.r := by
 obtain ⟨A',c',e,h1,h2⟩ := Kd.R_reads (zzU h.row B0 (Nat.le_refl _))
 simp only [Value.slice.injEq] at e
 obtain ⟨rfl,rfl,rfl⟩ := e
 exact ⟨rfl,h1,h2⟩
end Go.Proofs.Ythcmfjpheanphaa.Pr
namespace Go.Proofs.Ythcmfjpheanphaa.Pr
open Go.RowKit Go.Maps Go.Proofs.YthcmfjpheanphaaW.PrintWords
open Go.Proofs.YthcmfjpheanphaaW.PrintLast Go.Proofs.YthcmfjpheanphaaW.PrintMore
attribute [local go_sem] Oper.semAt_some zaX zbG
def InOk (x : S47) : Prop := x.f2.size ≤ 1000000 ∧ 0 ≤ x.f1 ∧ x.f1 ≤ 255
structure OpB (k : Nat) (o : S159) : Prop where
 a : o.f1.size ≤ k
 b : o.f5.size ≤ 1000000 * k
 c : 0 ≤ o.f3
 d : o.f3 ≤ k
structure RB (s : RSt) (k : Nat) : Prop where
 pos : 0 < s.r.length
 row : s.r.length ≤ k + 1
 t : s.t.length ≤ k
 ops : ∀ o ∈ s.r,OpB k o
theorem RB0 : RB zkW 0 := ⟨by decide,by decide,by decide,fun o ho => by
 rw [List.mem_singleton.1 ho]
 exact ⟨by decide,by decide,by decide,by decide⟩⟩
theorem OpB.up {k : Nat} {o : S159} (h : OpB k o) : OpB (k + 1) o := ⟨by have := h.a;omega,by have := h.b;omega,h.c,by have := h.d;omega⟩
theorem zkN {l : List S159} {f : S159 → S159} {j : Nat} {x : S159} (h : x ∈ l.modify j f) : ∃ y ∈ l,x = y ∨ x = f y := by
 rw [List.mem_iff_getElem?] at h
 obtain ⟨i,hi⟩ := h
 rw [List.getElem?_modify] at hi
 cases hl : l[i]? with
 | none => rw [hl] at hi;simp at hi
 | some y =>
 rw [hl] at hi
 simp only [Option.map_eq_map,Option.map_some,Option.some.injEq] at hi
 refine ⟨y,List.mem_of_getElem? hl,?_⟩
 split at hi
 ·exact .inr hi.symm
 exact .inl hi.symm
theorem zoY (k : Int) : (zdC k).size = 1 := rfl
structure OpX (k a b c : Nat) (o : S159) : Prop where
 e1 : o.f1.size ≤ k + a
 e2 : o.f5.size ≤ 1000000 * k + 1000000 * b
 e3 : 0 ≤ o.f3
 e4 : o.f3 ≤ k + c
theorem ycI {s s' : RSt} {k : Nat} {x : S47} (h : RB s k) (hx : InOk x) (hs : zgN s x = some s') : RB s' (k + 1) := by
 have up : ∀ {a b c : Nat} {r : List S159},(∀ o ∈ r,OpX k a b c o) → a ≤ 1 → b ≤ 1 → c ≤ 1 → ∀ o ∈ r,OpB (k + 1) o := fun hr ha hb hc o ho => by
  obtain ⟨h1,h2,h3,h4⟩ := hr o ho
  exact ⟨by omega,by omega,h3,by omega⟩
 have h00 : ∀ o ∈ s.r,OpX k 0 0 0 o := fun o ho => by
  obtain ⟨h1,h2,h3,h4⟩ := h.ops o ho
  exact ⟨by omega,by omega,h3,by omega⟩
 have hkid : ∀ b : ByteArray,b.size = 1 → ∀ o ∈ s.r.modify (s.r.length - 1) (kidR b),OpX k 1 0 0 o := fun b hb o ho => by
  obtain ⟨y,hy,rfl | rfl⟩ := zkN ho
  ·obtain ⟨h1,h2,h3,h4⟩ := h00 _ hy
   exact ⟨by omega,by omega,h3,by omega⟩
  obtain ⟨h1,h2,h3,h4⟩ := h00 _ hy
  exact ⟨by show (y.f1 ++ b).size ≤ _;rw [ByteArray.size_append];omega,h2,h3,h4⟩
 unfold zgN at hs
 by_cases h1 : x.f0 = 1
 ·rw [if_pos h1] at hs
  by_cases ht : zfQ s.r = true
  ·rw [if_pos ht] at hs
   obtain rfl := Option.some.inj hs
   have hlen : (zjH x.f2 (s.r.modify (s.r.length - 1) (kidR dotB))).length = s.r.length := by
    unfold zjH;split <;> simp
   refine ⟨by show 0 < List.length _;rw [hlen];exact h.pos,by show List.length _ ≤ _;rw [hlen];have := h.row;omega,by have := h.t;simp;omega,up (a := 1) (b := 1) (c := 0) (fun o ho => ?_) (by omega) (by omega) (by omega)⟩
   have ho' : o ∈ zjH x.f2 (s.r.modify (s.r.length - 1) (kidR dotB)) := ho
   unfold zjH at ho'
   split at ho'
   ·obtain ⟨y,hy,rfl | rfl⟩ := zkN ho'
    ·obtain ⟨h1,h2,h3,h4⟩ := hkid dotB rfl _ hy
     exact ⟨by omega,by omega,h3,by omega⟩
    obtain ⟨h1,h2,h3,h4⟩ := hkid dotB rfl _ hy
    exact ⟨h1,by show (y.f5 ++ x.f2).size ≤ _;rw [ByteArray.size_append];have := hx.1;omega,h3,h4⟩
   obtain ⟨h1,h2,h3,h4⟩ := hkid dotB rfl _ ho'
   exact ⟨by omega,by omega,h3,by omega⟩
  rw [if_neg ht] at hs
  obtain rfl := Option.some.inj hs
  exact ⟨h.pos,by have := h.row;omega,by have := h.t;omega,fun o ho => (h.ops o ho).up⟩
 rw [if_neg h1] at hs
 by_cases h2 : x.f0 = 2
 ·rw [if_pos h2] at hs
  obtain rfl := Option.some.inj hs
  have hlen : (zgF x.f1 (s.r.modify (s.r.length - 1) (kidR (zdC x.f1)))).length = s.r.length := by
   unfold zgF;split <;> simp
  refine ⟨by simp,by show List.length _ ≤ _;rw [List.length_append,hlen];have := h.row;simp;omega,by have := h.t;simp;omega,up (a := 1) (b := 0) (c := 1) (fun o ho => ?_) (by omega) (by omega) (by omega)⟩
  have ho' : o ∈ zgF x.f1 (s.r.modify (s.r.length - 1) (kidR (zdC x.f1))) ++ [(⟨x.f1,⟨#[]⟩,s.t.length,0,0,⟨#[]⟩⟩ : S159)] := ho
  rcases List.mem_append.1 ho' with ho' | ho'
  ·unfold zgF at ho'
   split at ho'
   ·obtain ⟨y,hy,rfl | rfl⟩ := zkN ho'
    ·obtain ⟨h1,h2,h3,h4⟩ := hkid _ (zoY x.f1) _ hy
     exact ⟨by omega,by omega,h3,by omega⟩
    obtain ⟨h1,h2,h3,h4⟩ := hkid _ (zoY x.f1) _ hy
    exact ⟨h1,h2,by show 0 ≤ y.f3 + 1;omega,by show y.f3 + 1 ≤ _;omega⟩
   obtain ⟨h1,h2,h3,h4⟩ := hkid _ (zoY x.f1) _ ho'
   exact ⟨by omega,by omega,h3,by omega⟩
  rw [List.mem_singleton.1 ho']
  exact ⟨Nat.zero_le _,Nat.zero_le _,Int.le_refl _,by show (0 : Int) ≤ _;omega⟩
 rw [if_neg h2] at hs
 split at hs
 ·rename_i hc
  obtain rfl := Option.some.inj hs
  have hlen : (zhA s.r).length = s.r.length := by unfold zhA;split <;> simp
  refine ⟨by simp [hlen];omega,by simp [hlen];have := h.row;omega,by have := h.t;simp;omega,fun o ho => ?_⟩
  have ho' : o ∈ zhA s.r := List.dropLast_subset _ ho
  unfold zhA at ho'
  split at ho'
  ·obtain ⟨y,hy,rfl | rfl⟩ := zkN ho'
   ·exact (h.ops _ hy).up
   have := (h.ops _ hy).up
   exact ⟨this.a,this.b,this.c,this.d⟩
  exact (h.ops _ ho').up
 cases hs
theorem ygG (w : World) : (w.alloc (.cells (zbL z159).toArray 159)).ownsRow w.heap.size 159 6 (.slice (some ⟨w.heap.size,0,none⟩) 1 1) 1 (zeD [z159]) :=
 ⟨rfl,.inr ⟨w.heap.size,1,(zbL z159).toArray,rfl,Nat.le_refl _,heap_alloc_new w _,Nat.le_refl _,by decide,rfl,rfl⟩⟩
theorem ydX (r : List S159) : (zeD r).take (r.dropLast.length * 6) = zeD r.dropLast := by
 rcases List.eq_nil_or_concat r with rfl | ⟨r',x,rfl⟩
 ·rfl
 rw [List.concat_eq_append,List.dropLast_concat,zuV,List.take_append_of_le_length (by rw [zmQ];omega),List.take_of_length_le (by rw [zmQ];omega)]
theorem RAt.dropR {W : World} {B0 c n : Nat} {A : Option Addr} {vt : Value} {s : RSt} (h : RAt W B0 (.slice A (n + 1) c) vt s) : RAt W B0 (.slice A n c) vt ⟨s.t,s.r.dropLast⟩ := by
 have e := zwB h.row
 refine ⟨?_,h.t⟩
 have h1 : W.ownsRow B0 159 6 (.slice A (n + 1) c) (n + 1) (zeD s.r) := by rw [e];rw [← e];have := h.row;unfold Row9 at this;rw [← e] at this;exact this
 have h2 := zsI h1 (m := n) (by omega)
 have hl : s.r.dropLast.length = n := by rw [List.length_dropLast];omega
 unfold Row9
 show W.ownsRow B0 159 6 _ s.r.dropLast.length (zeD s.r.dropLast)
 rw [← ydX,hl]
 exact h2
theorem znO (ks : ByteArray) (r : List S159) : ∀ n : Nat,-1 ≤ ziL ks r n ∧ ziL ks r n ≤ n
 | 0 => ⟨Int.le_refl _,by show (-1 : Int) ≤ _;omega⟩
 | n + 1 => by
  have := znO ks r n
  simp only [ziL]
  split <;> omega
theorem ycJ : (Try.prog.info? 159).map (fun i => (i.zero,i.size,i.bytes)) = some (some (.agg #[(.int .u8 0),(.string ⟨#[]⟩),(.int .i64 0),(.int .i64 0),(.int .i64 0),(.string ⟨#[]⟩)]),6,64) := by kernel_rfl
theorem str_one (k : Int) : strOfNums [k] = zdC k := rfl
def stylusref04_Read.f (l0 : List S47) : Option (List S56 × List S159) := if l0.length ≤ 800000 ∧ (l0.all fun x => decide (x.f2.size ≤ 1000000) && decide (0 ≤ x.f1) && decide (x.f1 ≤ 255)) = true then (zjA zkW l0).map fun s => (s.t,s.r) else none
set_option pp.maxSteps 3000 in
theorem ydY (A0 : Option Addr) (c0 : Nat) (l : List S47) (R : RSt) (w : World) (hl : l.length ≤ 800000) (hok : ∀ x ∈ l,InOk x) (hA : Kd.C k47 w A0 l.length l) (hc0 : l.length ≤ c0) (hR : zjA zkW l = some R) :
  Calls Try.prog 95 #[.slice A0 l.length c0] w fun e w' => ∃ v0_ v1_ : Value,e = .returned (.tuple #[v0_,v1_]) ∧ RAt w' w.heap.size v1_ v0_ R ∧ Below w.heap.size w w' := by
 have HA := Lib.hid hA
 have HOK := Lib.hid hok
 have HR := Lib.hid hR
 clear hA hok hR
 go_enter Try.func95,Try.ntmps95
 go_wp2_with fail
 have h0 : RAt (w.alloc (.cells (zbL z159).toArray 159)) w.heap.size (.slice (some ⟨w.heap.size,0,none⟩) 1 1) (.slice none 0 0) zkW := ⟨ygG w,rfl,.inl ⟨rfl,rfl⟩⟩
 have H0 := Lib.hid h0
 have HB0 := Lib.hid (show Below w.heap.size w (w.alloc (.cells (zbL z159).toArray 159)) from (Below.refl _ _).alloc (Nat.le_refl _) _)
 clear h0
 go_loopw [4,5,6] (fun v4 v5 v6 wr => ∃ (k : Nat) (s : RSt),k ≤ l.length ∧ v6 = .int .i64 k ∧ RAt wr w.heap.size v4 v5 s ∧ RB s k ∧ Below w.heap.size w wr ∧ zjA s (l.drop k) = some R) (fun _ _ v6 _ => l.length - (intOf v6).toNat)
 case atStart => exact ⟨0,zkW,Nat.zero_le _,rfl,H0.out,RB0,HB0.out,HR.out⟩
 case round =>
  obtain ⟨k,s,hk,rfl,hat,hrb,hW,hrun⟩ := hrel
  obtain ⟨Ar,cr,rfl⟩ := zbB hat.row
  obtain ⟨At,ct,rfl⟩ := zbB hat.t
  have HAT := Lib.hid hat
  have HRB := Lib.hid hrb
  have HW := Lib.hid hW
  have HRUN := Lib.hid hrun
  have hpos := hrb.pos
  have hrl := hrb.row
  have htl := hrb.t
  clear hat hrb hW hrun
  by_cases hlt : k < l.length
  ·have hlt1 : (k : Int) < (l.length : Int) := by omega
   obtain ⟨ad,e1,q0,q1,q2,q3⟩ := zpO (Kd.C_below HA.out HW.out) k (by omega) (by omega)
   subst e1
   simp only [Int.toNat_natCast] at q0 q1 q2 q3
   have hdrop : l.drop k = zaI l k :: l.drop (k + 1) := by
    rw [List.drop_eq_getElem_cons hlt]
    congr 1
    unfold zaI
    rw [Int.toNat_natCast,List.getD_eq_getElem?_getD,List.getElem?_eq_getElem hlt]
    rfl
   have hxok : InOk (zaI l k) := by
    refine HOK.out _ ?_
    have : zaI l k ∈ l.drop k := by rw [hdrop];exact List.mem_cons_self
    exact List.mem_of_mem_drop this
   have hst := HRUN.out
   rw [hdrop] at hst
   simp only [zjA] at hst
   clear hdrop HRUN
   have hq : ∀ W,Below w.heap.size w W → W.cell? (ad.add (k * 4)) = some (.int .i64 (zaI l k).f0) ∧ W.cell? ⟨(ad.add (k * 4)).block,(ad.add (k * 4)).off + 1,none⟩ = some (.int .u8 (zaI l k).f1) ∧ W.cell? ⟨(ad.add (k * 4)).block,(ad.add (k * 4)).off + 2,none⟩ = some (.string (zaI l k).f2) ∧ W.cell? ⟨(ad.add (k * 4)).block,(ad.add (k * 4)).off + 3,none⟩ = some (.int .i64 (zaI l k).f3) := fun W hW => by
    obtain ⟨ad',e,h⟩ := zpO (Kd.C_below HA.out hW) k (by omega) (by omega)
    cases e
    simpa only [Int.toNat_natCast] using h
   generalize zaI l k = x at *
   cases hs : zgN s x with
   | none => rw [hs] at hst;cases hst
   | some s' =>
    rw [hs,Option.bind_some] at hst
    have HS := Lib.hid hs
    have HST := Lib.hid hst
    have HRB2 := Lib.hid (ycI HRB.out hxok hs)
    have hxs := hxok.1
    have hx1 := hxok.2.1
    have hx2 := hxok.2.2
    clear hs hst hxok
    obtain ⟨f0,f1,f2,f3⟩ := x
    simp only at q0 q1 q2 q3 hxs hx1 hx2 hq
    have HQ := Lib.hid hq
    clear hq
    obtain ⟨gr,cr',er⟩ := zzT HAT.out.row hpos
    simp only [Value.slice.injEq] at er
    obtain ⟨rfl,-,rfl⟩ := er
    have hCr := HAT.out.reads
    by_cases h1 : f0 = 1
    ·have e1 : (f0 == 1) = true := beq_iff_eq.2 h1
     have hs := HS.out
     unfold zgN at hs
     rw [if_pos h1] at hs
     obtain ⟨n,hn⟩ : ∃ n,s.r.length = n + 1 := ⟨s.r.length - 1,by omega⟩
     have hn1 : s.r.length - 1 = n := by omega
     simp only [hn1] at hs
     have HAT2 := Lib.hid (show RAt wr w.heap.size (.slice (some ⟨gr,0,none⟩) (n + 1) cr) (.slice At s.t.length ct) s from hn ▸ HAT.out)
     have HN := Lib.hid hn
     obtain ⟨o,ho⟩ : ∃ o,s.r.getD n z159 = o := ⟨_,rfl⟩
     have htop : topR s.r = o := by unfold topR zaC;rw [hn1,Int.toNat_natCast];exact ho
     have hsz : o.f1.size ≤ 800000 := by
      have hmem : o ∈ s.r := by
       rw [← ho,List.getD_eq_getElem?_getD,List.getElem?_eq_getElem (by omega)]
       exact List.getElem_mem _
      have := (HRB.out.ops o hmem).a
      omega
     have HO := Lib.hid ho
     have hnb : n ≤ 800000 := by omega
     have htb : s.t.length ≤ 800000 := by omega
     have hrd := HAT2.out.reads
     have htx := stylusref04_Texts.calls (o.f1.size + 101) (some ⟨gr,0,none⟩) cr s.r (zfQ s.r) wr hrd.2.2 (by omega) (zrK s.r (by omega) (by omega) (by rw [htop];omega) _ (by rw [htop];exact Nat.le_refl _))
     rw [hn] at htx
     rw [hn]
     by_cases htt : zfQ s.r = true
     ·rw [if_pos htt] at hs
      have hs' := Option.some.inj hs
      rw [htt] at htx
      have HTX := Lib.hid htx
      have HS' := Lib.hid hs'
      clear hs hs' h1 hn hn1 ho htop hrd htx htt
      go_wp2_with fail
      refine HTX.out.mono ?_
      rintro _ W4 ⟨rfl,hb4⟩
      have hAT4 := HAT2.out.below hb4
      have xc := zgP hAT4.row n 1 (by have := HN.out;omega) (by omega)
      rw [HO.out] at xc
      simp only [zbL,List.getElem?_cons_succ,List.getElem?_cons_zero] at xc
      obtain ⟨t1,t2,t3⟩ := hAT4.setR n 1 (by have := HN.out;omega) (by omega) (kidR dotB) (.string (o.f1 ++ ⟨#[46]⟩)) (by rw [HO.out];rfl)
      obtain ⟨W6,hW6⟩ : ∃ W6,W4.setCell ⟨gr,n * 6 + 1,none⟩ (.string (o.f1 ++ ⟨#[46]⟩)) = W6 := ⟨_,rfl⟩
      rw [hW6] at t1 t2
      have hB6 : Below w.heap.size w W6 := (HW.out.trans (hb4.mono HW.out.size)).trans t2
      obtain ⟨r1,hr1⟩ : ∃ r1,s.r.modify n (kidR dotB) = r1 := ⟨_,rfl⟩
      have hs2 := HS'.out
      rw [hr1] at t1 hs2
      have hrl1 : r1.length = n + 1 := by rw [← hr1,List.length_modify,HN.out]
      have hopb : ∀ y ∈ r1,y.f5.size ≤ 1000000 * 800000 := fun y hy => by
       rw [← hr1] at hy
       obtain ⟨z,hz,h | h⟩ := zkN hy
       ·have := (HRB.out.ops z hz).b
        rw [h];omega
       ·have := (HRB.out.ops z hz).b
        rw [h];show z.f5.size ≤ _;omega
      have HOPB := Lib.hid hopb
      have HS2 := Lib.hid hs2
      have HQ6 := Lib.hid t1
      have HB6 := Lib.hid hB6
      have HRL := Lib.hid hrl1
      have hcat := fun W => run_string_add_sum (P := Try.prog) (w := W) o.f1 ⟨#[46]⟩ (by show o.f1.size + 1 ≤ _;omega)
      clear q0 q1 q2 q3 hb4 hAT4 t1 t2 hr1 hB6 hrl1 hs2 hopb
      go_wp2_with fail
      obtain ⟨W7,hW7⟩ : ∃ W7,W6.drew = W7 := ⟨_,rfl⟩
      have HB7 := Lib.hid (show Below w.heap.size w W7 by rw [← hW7];exact zaJ HB6.out)
      have HQ7 := Lib.hid (HQ6.out.below (show Below W6.heap.size W6 W7 by rw [← hW7];exact zaJ (Below.refl _ _)))
      have HW7 := Lib.hid hW7
      clear hW7 hcat xc t3 hW6
      refine Go.Mix.region_mix' (fun b W => W = (bif b then W7.alloc (.cells #[.int .u8 46,.string f2,.int .i64 f3,.int .i64 1] 56) else W7)) 12 13 [] (by kernel_rfl) (by kernel_rfl) (fun _ _ _ _ _ h => h) HW7.out ?_
      refine Go.Mix.seqE_nil ?_
      repeat
       apply Go.Mix.seqM_cons (by rfl) (by rfl)
       focus
        intro b W hS
        have hB : Below w.heap.size w W := by
         rw [hS]
         cases b
         ·exact HB7.out
         ·exact HB7.out.alloc HB7.out.size _
        obtain ⟨p0,p1,p2,p3⟩ := HQ.out W hB
        have HSS := Lib.hid hS
        clear hS hB
        go_wp2
        exact Go.Det.AtEnd.mk HSS.out
      apply Go.Mix.seqM_main (by rfl)
      focus
       intro W hS
       obtain rfl : W = W7 := hS
       go_wp2
       exact Go.Det.AtEnd.mk rfl
      refine Go.Mix.seqM_nil ?_
      intro W8 hW8
      obtain rfl : W8 = W7.alloc (.cells #[.int .u8 46,.string f2,.int .i64 f3,.int .i64 1] 56) := hW8
      simp only [List.drop_succ_cons,List.drop_zero]
      obtain ⟨j0,gi,gz0,gz1,gz2⟩ := info_parts zfU
      have hrow7 : W7.ownsRow w.heap.size 56 4 (.slice At s.t.length ct) s.t.length (zaU s.t) := HQ7.out.t
      go_wp2_with (at_builtin;refine wpList_append_own_at _ rfl _ _ 50 rfl w.heap.size 56 j0 (.agg #[(.int .u8 0),(.string ⟨#[]⟩),(.int .i64 0),(.int .i64 0)]) 4 40 Try.underlying50 gi gz0 gz1 gz2 rfl (by decide) _ _ _ rfl (hrow7.alloc _) _ 1 1 (zdJ ⟨46,f2,f3,1⟩) rfl rfl ?d1x ?d2x ?d3x ?d4x ?d5x ?d6x)
      case d1x => exact zgK W7 (zdJ ⟨46,f2,f3,1⟩) 56
      case d2x => simp [zdJ,Value.oneCell']
      case d3x => unfold maxLen;omega
      case d4x => omega
      case d5x => have := HB7.out.size;simp;omega
      case d6x =>
       intro v8 W9 hown' hgrow _ _
       have hq9 := zqQ (x := ⟨46,f2,f3,1⟩) HQ7.out hgrow hown'
       have hb9 : Below w.heap.size w W9 := ((HB7.out.alloc HB7.out.size _)).grown hgrow (by have := HB7.out.size;simp;omega) fun k hk => zcZ hrow7 k hk
       have hrd := hq9.reads
       have hlast := stylusref04_last.calls (r1.length + 102) (some ⟨gr,0,none⟩) cr r1 ⟨#[110]⟩ (lastP nB r1) W9 hrd.2.2 (by have := hrd.2.1;have := HRL.out;omega) (zuI nB (by decide) r1 (by have := HRL.out;omega) (by have := HRL.out;omega) _ (Nat.le_refl _))
       rw [HRL.out] at hlast
       have hjb := znO nB r1 n
       have hle : lastP nB r1 = ziL nB r1 n := by unfold lastP;rw [HRL.out];rfl
       rw [← hle] at hjb
       have hs3 : (⟨s.t ++ [⟨46,f2,f3,1⟩],if 0 < lastP nB r1 then r1.modify (lastP nB r1).toNat (zoV f2) else r1⟩ : RSt) = s' := HS2.out
       obtain ⟨L,hL⟩ : ∃ L,lastP nB r1 = L := ⟨_,rfl⟩
       rw [hL] at hlast hjb hs3
       have HLC := Lib.hid hlast
       have HS3 := Lib.hid hs3
       have HQ9 := Lib.hid hq9
       have HB9 := Lib.hid hb9
       clear hown' hgrow hq9 hb9 hrow7 hlast hL hle hs3 hrd
       go_wp2_with fail
       refine HLC.out.mono ?_
       rintro _ Wd ⟨rfl,hd⟩
       have hbd := hd.below
       have HQd := Lib.hid (HQ9.out.below hbd)
       have HBd := Lib.hid (HB9.out.trans (hbd.mono HB9.out.size))
       clear hd hbd
       by_cases hL0 : 0 < L
       ·have HS4 := HS3.out
        rw [if_pos hL0] at HS4
        obtain ⟨jn,rfl⟩ : ∃ jn : Nat,L = (jn : Int) := ⟨L.toNat,by omega⟩
        rw [Int.toNat_natCast] at HS4
        have hjl : jn < n + 1 := by omega
        have HS5 := Lib.hid HS4
        obtain ⟨ob,hob⟩ : ∃ ob,r1.getD jn z159 = ob := ⟨_,rfl⟩
        have hsz5 : ob.f5.size ≤ 1000000 * 800000 := by
         refine HOPB.out ob ?_
         rw [← hob,List.getD_eq_getElem?_getD,List.getElem?_eq_getElem (by have := HRL.out;omega)]
         exact List.getElem_mem _
        have HOB := Lib.hid hob
        have hcat5 := fun W => run_string_add_sum (P := Try.prog) (w := W) ob.f5 f2 (by omega)
        have HC5 := Lib.hid hcat5
        clear HS4 hob hcat5 hjb
        go_wp2_with fail
        refine Go.Det.region_det (fun W' => Below Wd.heap.size Wd W') 15 (by kernel_rfl) (by kernel_rfl) (by kernel_rfl) (by decide) (ziC (Below.refl _ _)) ?_
        repeat
         apply Go.Det.seqW_cons
         focus
          intro W' hS'
          replace hS' : Below Wd.heap.size Wd W' := hS'
          have x5 := zgP (HQd.out.below hS').row jn 5 (by show jn < r1.length;have := HRL.out;omega) (by omega)
          rw [HOB.out] at x5
          simp only [zbL,List.getElem?_cons_succ,List.getElem?_cons_zero] at x5
          obtain ⟨p0,p1,p2,p3⟩ := HQ.out W' (HBd.out.trans (hS'.mono HBd.out.size))
          have hcat := HC5.out
          have HSS := Lib.hid hS'
          clear hS'
          go_wp2
          exact Go.Det.AtEnd.mk HSS.out
        refine Go.Det.seqW_nil ?_
        intro W' hS'
        replace hS' : Below Wd.heap.size Wd W' := hS'
        have hA5 := HQd.out.below hS'
        have x5 := zgP hA5.row jn 5 (by show jn < r1.length;have := HRL.out;omega) (by omega)
        rw [HOB.out] at x5
        simp only [zbL,List.getElem?_cons_succ,List.getElem?_cons_zero] at x5
        obtain ⟨t1,t2,t3⟩ := hA5.setR jn 5 (by show jn < r1.length;have := HRL.out;omega) (by omega) (zoV f2) (.string (ob.f5 ++ f2)) (by show zbL (zoV f2 (r1.getD jn z159)) = _;rw [HOB.out];rfl)
        have HT1 := Lib.hid t1
        have HT2 := Lib.hid ((HBd.out.trans (hS'.mono HBd.out.size)).trans t2)
        clear t1 t2 hA5 hS'
        simp only [List.drop_succ_cons,List.drop_zero]
        go_wp2_with fail
        refine ⟨⟨k + 1,s',by omega,by simp,?_,HRB2.out,HT2.out,HST.out⟩,by simp only [intOf];omega⟩
        rw [← HS5.out]
        exact HT1.out
       ·have HS4 := HS3.out
        rw [if_neg hL0] at HS4
        have HS5 := Lib.hid HS4
        clear HS4
        go_wp2_with fail
        refine ⟨⟨k + 1,s',by omega,by simp,?_,HRB2.out,HBd.out,HST.out⟩,by simp only [intOf];omega⟩
        rw [← HS5.out]
        exact HQd.out
     ·rw [if_neg htt] at hs
      have hs' := Option.some.inj hs
      have hff : zfQ s.r = false := by simpa using htt
      rw [hff] at htx
      have HTX := Lib.hid htx
      have HS' := Lib.hid hs'
      clear hs hs' h1 hn hn1 ho htop hrd htx htt hff
      go_wp2_with fail
      refine HTX.out.mono ?_
      rintro _ W4 ⟨rfl,hb4⟩
      have HA4 := Lib.hid (HAT2.out.below hb4)
      have HB4 := Lib.hid (HW.out.trans (hb4.mono HW.out.size))
      clear hb4
      go_wp2_with fail
      refine ⟨⟨k + 1,s',by omega,by simp,?_,HRB2.out,HB4.out,HST.out⟩,by simp only [intOf];omega⟩
      rw [← HS'.out]
      exact HA4.out
    ·by_cases h2 : f0 = 2
     ·have e1 : (f0 == 1) = false := beq_eq_false_iff_ne.2 h1
      have e2 : (f0 == 2) = true := beq_iff_eq.2 h2
      have hs := HS.out
      unfold zgN at hs
      rw [if_neg h1,if_pos h2] at hs
      have hs' := Option.some.inj hs
      obtain ⟨n,hn⟩ : ∃ n,s.r.length = n + 1 := ⟨s.r.length - 1,by omega⟩
      have hn1 : s.r.length - 1 = n := by omega
      simp only [hn1] at hs'
      have HS' := Lib.hid hs'
      have HAT2 := Lib.hid (show RAt wr w.heap.size (.slice (some ⟨gr,0,none⟩) (n + 1) cr) (.slice At s.t.length ct) s from hn ▸ HAT.out)
      have HN := Lib.hid hn
      obtain ⟨o,ho⟩ : ∃ o,s.r.getD n z159 = o := ⟨_,rfl⟩
      have hsz : o.f1.size ≤ 800000 := by
       have hmem : o ∈ s.r := by
        rw [← ho,List.getD_eq_getElem?_getD,List.getElem?_eq_getElem (by omega)]
        exact List.getElem_mem _
       have := (HRB.out.ops o hmem).a
       omega
      have HO := Lib.hid ho
      obtain ⟨W3,hW3⟩ : ∃ W3,wr.drew = W3 := ⟨_,rfl⟩
      have HB3 := Lib.hid (show Below wr.heap.size wr W3 by rw [← hW3];exact zaJ (Below.refl _ _))
      have HW3 := Lib.hid hW3
      have hnb : n ≤ 800000 := by omega
      have htb : s.t.length ≤ 800000 := by omega
      rw [hn]
      clear hs hs' h1 h2 hn hn1 ho hW3
      go_wp2_with fail
      refine Go.Mix.region_mixD' (fun i => i == 13 || i == 14) (fun b W => W = (bif b then W3.alloc (.cells #[.int .u8 f1] 5) else W3)) 12 15 [] (by kernel_rfl) rfl (by kernel_rfl) (by kernel_rfl) (fun _ _ _ _ _ h => h) HW3.out ?_
      refine Go.Mix.seqE_nil ?_
      repeat
       apply Go.Mix.seqD_cons (by rfl) (by rfl)
       focus
        intro b W hS
        have hB : Below wr.heap.size wr W := by
         rw [hS]
         cases b
         ·exact HB3.out
         ·exact HB3.out.alloc HB3.out.size _
        have x1 := zgP (HAT2.out.below hB).row n 1 (by have := HN.out;omega) (by omega)
        rw [HO.out] at x1
        simp only [zbL,List.getElem?_cons_succ,List.getElem?_cons_zero] at x1
        have q1' := (hB.cell (World.block_lt_of_cell? wr _ q1)).trans q1
        have HSS := Lib.hid hS
        clear hS hB
        go_wp2
        exact Go.Det.AtEnd.mk HSS.out
      apply Go.Mix.seqD_main (by rfl)
      focus
       intro W hS
       obtain rfl : W = W3 := hS
       go_wp2
       exact Go.Det.AtEnd.mk rfl
      apply Go.Mix.seqD_dep (by rfl) (by rfl) (by rfl)
      focus
       intro W hS
       obtain rfl : W = W3.alloc (.cells #[.int .u8 f1] 5) := hS
       have hcv := run_convert_bytes_arg (P := Try.prog) (W3.alloc (.cells #[.int .u8 f1] 5)) 68 5 Try.underlying68 Try.underlying5 W3.heap.size 0 1 1 [f1] rfl (fun i hi => by
        obtain rfl : i = 0 := by omega
        rw [zaB (zbW W3 (.cells #[.int .u8 f1] 5))]
        rfl) 9 Try.underlying9
       rw [str_one] at hcv
       go_wp2
       exact Go.Det.AtEnd.mk rfl
      apply Go.Mix.seqD_dep (by rfl) (by rfl) (by rfl)
      focus
       intro W hS
       have HSS := Lib.hid hS
       have hcat := fun W => run_string_add_sum (P := Try.prog) (w := W) o.f1 (zdC f1) (by show o.f1.size + 1 ≤ _;omega)
       clear hS
       go_wp2
       exact Go.Det.AtEnd.mk HSS.out
      refine Go.Mix.seqD_nil ?_
      intro W4 hW4
      obtain rfl : W4 = W3.alloc (.cells #[.int .u8 f1] 5) := hW4
      simp only [List.drop_succ_cons,List.drop_zero]
      have hB4 : Below wr.heap.size wr (W3.alloc (.cells #[.int .u8 f1] 5)) := HB3.out.alloc HB3.out.size _
      have hAT4 := HAT2.out.below hB4
      have xc := zgP hAT4.row n 1 (by have := HN.out;omega) (by omega)
      rw [HO.out] at xc
      simp only [zbL,List.getElem?_cons_succ,List.getElem?_cons_zero] at xc
      obtain ⟨t1,t2,t3⟩ := hAT4.setR n 1 (by have := HN.out;omega) (by omega) (kidR (zdC f1)) (.string (o.f1 ++ zdC f1)) (by rw [HO.out];rfl)
      obtain ⟨W5,hW5⟩ : ∃ W5,(W3.alloc (.cells #[.int .u8 f1] 5)).setCell ⟨gr,n * 6 + 1,none⟩ (.string (o.f1 ++ zdC f1)) = W5 := ⟨_,rfl⟩
      rw [hW5] at t1 t2
      have hB5 : Below w.heap.size w W5 := (HW.out.trans (hB4.mono HW.out.size)).trans t2
      obtain ⟨r1,hr1⟩ : ∃ r1,s.r.modify n (kidR (zdC f1)) = r1 := ⟨_,rfl⟩
      rw [hr1] at t1
      have hrl1 : r1.length = n + 1 := by rw [← hr1,List.length_modify,HN.out]
      have HR1 := Lib.hid hr1
      have HT1 := Lib.hid t1
      have HB5 := Lib.hid hB5
      have HRL := Lib.hid hrl1
      clear q0 q1 q2 q3 hB4 hAT4 t1 t2 hr1 hB5 hrl1
      obtain ⟨p0,p1,p2,p3⟩ := HQ.out W5 HB5.out
      by_cases h110 : f1 = 110
      ·have k110 : (f1 == 110) = true := beq_iff_eq.2 h110
       have hs2 : (⟨s.t ++ [⟨f1,⟨#[]⟩,f3,1⟩],r1.modify (mx (lastP zfG r1) 0).toNat ziZ ++ [⟨f1,⟨#[]⟩,s.t.length,0,0,⟨#[]⟩⟩]⟩ : RSt) = s' := by
        have := HS'.out
        rw [HR1.out] at this
        unfold zgF at this
        rw [if_pos h110] at this
        exact this
       have HS2 := Lib.hid hs2
       clear h110 hs2
       have hrd := HT1.out.reads
       have hlast := stylusref04_last.calls (r1.length + 102) (some ⟨gr,0,none⟩) cr r1 ⟨#[49,50,51,112,105]⟩ (lastP zfG r1) W5 hrd.2.2 (by have := HRL.out;omega) (zuI zfG (by decide) r1 (by have := HRL.out;omega) (by have := HRL.out;omega) _ (Nat.le_refl _))
       rw [HRL.out] at hlast
       have hjb := znO zfG r1 n
       have hle : lastP zfG r1 = ziL zfG r1 n := by unfold lastP;rw [HRL.out];rfl
       rw [← hle] at hjb
       obtain ⟨L,hL⟩ : ∃ L,lastP zfG r1 = L := ⟨_,rfl⟩
       rw [hL] at hlast hjb
       have HS3 := Lib.hid (show (⟨s.t ++ [⟨f1,⟨#[]⟩,f3,1⟩],r1.modify (mx L 0).toNat ziZ ++ [⟨f1,⟨#[]⟩,s.t.length,0,0,⟨#[]⟩⟩]⟩ : RSt) = s' by rw [← hL];exact HS2.out)
       obtain ⟨jn,hjn⟩ : ∃ jn : Nat,mx L 0 = (jn : Int) := ⟨(mx L 0).toNat,by unfold mx;split <;> omega⟩
       have hjl : jn < n + 1 := by
        have : mx L 0 ≤ n := by unfold mx;split <;> omega
        omega
       have HLC := Lib.hid hlast
       have HMX := Lib.hid hjn
       clear hlast hL hle hrd HS2 hjn
       go_wp2_with fail
       refine HLC.out.mono ?_
       rintro _ Wd ⟨rfl,hd⟩
       have hbd := hd.below
       have HT1d := Lib.hid (HT1.out.below hbd)
       have HB5d := Lib.hid (HB5.out.trans (hbd.mono HB5.out.size))
       have hcell := zgP HT1d.out.row jn 3 (by show jn < r1.length;have := HRL.out;omega) (by omega)
       obtain ⟨ob,hob⟩ : ∃ ob,r1.getD jn z159 = ob := ⟨_,rfl⟩
       rw [hob] at hcell
       simp only [zbL,List.getElem?_cons_succ,List.getElem?_cons_zero] at hcell
       have hnb3 : 0 ≤ ob.f3 ∧ ob.f3 ≤ 800000 := by
        have hmem : ob ∈ r1 := by
         rw [← hob,List.getD_eq_getElem?_getD,List.getElem?_eq_getElem (by have := HRL.out;omega)]
         exact List.getElem_mem _
        rw [← HR1.out] at hmem
        obtain ⟨y,hy,h | h⟩ := zkN hmem
        ·have := HRB.out.ops y hy
         rw [h]
         exact ⟨this.c,by have := this.d;omega⟩
        ·have := HRB.out.ops y hy
         rw [h]
         exact ⟨this.c,by have := this.d;show y.f3 ≤ _;omega⟩
       obtain ⟨t1,t2,t3⟩ := HT1d.out.setR jn 3 (by have := HRL.out;show jn < r1.length;omega) (by omega) ziZ (.int .i64 (ob.f3 + 1)) (by show zbL (ziZ (r1.getD jn z159)) = _;rw [hob];rfl)
       have HT2 := Lib.hid t1
       have HT3 := Lib.hid t2
       clear t1 t2 hd hbd p0 p1 p2 p3
       have hjn : (if L < 0 then (0 : Int) else L) = (jn : Int) := HMX.out
       obtain ⟨Wf,hWf⟩ : ∃ Wf,Wd.setCell ⟨gr,jn * 6 + 3,none⟩ (.int .i64 (ob.f3 + 1)) = Wf := ⟨_,rfl⟩
       have HT2' := Lib.hid (show RAt Wf w.heap.size (.slice (some ⟨gr,0,none⟩) (n + 1) cr) (.slice At s.t.length ct) ⟨s.t,r1.modify jn ziZ⟩ by rw [← hWf];exact HT2.out)
       have HB2' := Lib.hid (show Below w.heap.size w Wf by rw [← hWf];exact HB5d.out.trans HT3.out)
       have HS4 := Lib.hid (show (⟨s.t ++ [⟨f1,⟨#[]⟩,f3,1⟩],r1.modify jn ziZ ++ [⟨f1,⟨#[]⟩,s.t.length,0,0,⟨#[]⟩⟩]⟩ : RSt) = s' by have := HS3.out;rw [HMX.out,Int.toNat_natCast] at this;exact this)
       have HRL' := Lib.hid (show (r1.modify jn ziZ).length = n + 1 by rw [List.length_modify];exact HRL.out)
       clear HT1 HB5 HRL HS3 HT2 HR1
       obtain ⟨r2,hr2⟩ : ∃ r2,r1.modify jn ziZ = r2 := ⟨_,rfl⟩
       rw [hr2] at HT2' HS4 HRL'
       obtain ⟨p0,p1,p2,p3⟩ := HQ.out Wf HB2'.out
       clear hr2
       obtain ⟨i0,hi,hz0,hz1,hz2⟩ := info_parts ycJ
       have hrow : Wf.ownsRow w.heap.size 159 6 (.slice (some ⟨gr,0,none⟩) (n + 1) cr) (n + 1) (zeD r2) := by
        have := HT2'.out.row
        unfold Row9 at this
        rw [HRL'.out] at this
        exact this
       go_wp2_with (at_builtin;refine wpList_append_own_at _ rfl _ _ 105 rfl w.heap.size 159 i0 (.agg #[(.int .u8 0),(.string ⟨#[]⟩),(.int .i64 0),(.int .i64 0),(.int .i64 0),(.string ⟨#[]⟩)]) 6 64 Try.underlying105 hi hz0 hz1 hz2 rfl (by decide) _ _ _ rfl (hrow.alloc _) _ 1 1 (zbL ⟨f1,⟨#[]⟩,s.t.length,0,0,⟨#[]⟩⟩) rfl rfl ?e1n ?e2n ?e3n ?e4n ?e5n ?e6n)
       case e1n => exact zgK Wf (zbL ⟨f1,⟨#[]⟩,s.t.length,0,0,⟨#[]⟩⟩) 159
       case e2n => simp [zbL,Value.oneCell']
       case e3n => unfold maxLen;omega
       case e4n => omega
       case e5n => have := HB2'.out.size;simp;omega
       case e6n =>
        intro v' W6 hown' hgrow _ _
        obtain ⟨A',c',rfl⟩ := zbB hown'
        have hq6 := zxF (x := ⟨f1,⟨#[]⟩,s.t.length,0,0,⟨#[]⟩⟩) HT2'.out hgrow (by show W6.ownsRow w.heap.size 159 6 _ (r2.length + 1) (zeD r2 ++ zbL _);rw [HRL'.out];exact hown')
        have hb6 : Below w.heap.size w W6 := ((HB2'.out.alloc HB2'.out.size _)).grown hgrow (by have := HB2'.out.size;simp;omega) fun k hk => zcZ hrow k hk
        have HQ6 := Lib.hid hq6
        have HB6 := Lib.hid hb6
        clear hown' hgrow hq6 hb6 hrow p0 p1 p2 p3
        go_wp2_with fail
        obtain ⟨W7,hW7⟩ : ∃ W7,W6.drew = W7 := ⟨_,rfl⟩
        have HB7 := Lib.hid (show Below w.heap.size w W7 by rw [← hW7];exact zaJ HB6.out)
        have HQ7 := Lib.hid (HQ6.out.below (show Below W6.heap.size W6 W7 by rw [← hW7];exact zaJ (Below.refl _ _)))
        have HW7 := Lib.hid hW7
        clear hW7
        refine Go.Mix.region_mix' (fun b W => W = (bif b then W7.alloc (.cells #[.int .u8 f1,.string ⟨#[]⟩,.int .i64 f3,.int .i64 1] 56) else W7)) 12 13 [] (by kernel_rfl) (by kernel_rfl) (fun _ _ _ _ _ h => h) HW7.out ?_
        refine Go.Mix.seqE_nil ?_
        repeat
         apply Go.Mix.seqM_cons (by rfl) (by rfl)
         focus
          intro b W hS
          have hB : Below w.heap.size w W := by
           rw [hS]
           cases b
           ·exact HB7.out
           ·exact HB7.out.alloc HB7.out.size _
          obtain ⟨p0,p1,p2,p3⟩ := HQ.out W hB
          have HSS := Lib.hid hS
          clear hS hB
          go_wp2
          exact Go.Det.AtEnd.mk HSS.out
        apply Go.Mix.seqM_main (by rfl)
        focus
         intro W hS
         obtain rfl : W = W7 := hS
         go_wp2
         exact Go.Det.AtEnd.mk rfl
        refine Go.Mix.seqM_nil ?_
        intro W8 hW8
        obtain rfl : W8 = W7.alloc (.cells #[.int .u8 f1,.string ⟨#[]⟩,.int .i64 f3,.int .i64 1] 56) := hW8
        simp only [List.drop_succ_cons,List.drop_zero]
        obtain ⟨j0,gi,gz0,gz1,gz2⟩ := info_parts zfU
        have hrow7 : W7.ownsRow w.heap.size 56 4 (.slice At s.t.length ct) s.t.length (zaU s.t) := HQ7.out.t
        go_wp2_with (at_builtin;refine wpList_append_own_at _ rfl _ _ 50 rfl w.heap.size 56 j0 (.agg #[(.int .u8 0),(.string ⟨#[]⟩),(.int .i64 0),(.int .i64 0)]) 4 40 Try.underlying50 gi gz0 gz1 gz2 rfl (by decide) _ _ _ rfl (hrow7.alloc _) _ 1 1 (zdJ ⟨f1,⟨#[]⟩,f3,1⟩) rfl rfl ?d1m ?d2m ?d3m ?d4m ?d5m ?d6m)
        case d1m => exact zgK W7 (zdJ ⟨f1,⟨#[]⟩,f3,1⟩) 56
        case d2m => simp [zdJ,Value.oneCell']
        case d3m => unfold maxLen;omega
        case d4m => omega
        case d5m => have := HB7.out.size;simp;omega
        case d6m =>
         intro v8 W9 hown' hgrow _ _
         have hq9 := zqQ (x := ⟨f1,⟨#[]⟩,f3,1⟩) HQ7.out hgrow hown'
         have hb9 : Below w.heap.size w W9 := ((HB7.out.alloc HB7.out.size _)).grown hgrow (by have := HB7.out.size;simp;omega) fun k hk => zcZ hrow7 k hk
         have HQ9 := Lib.hid hq9
         have HB9 := Lib.hid hb9
         clear hown' hgrow hq9 hb9 hrow7
         go_wp2_with fail
         refine ⟨⟨k + 1,s',by omega,by simp,?_,HRB2.out,HB9.out,HST.out⟩,by simp only [intOf];omega⟩
         rw [← HS4.out]
         exact HQ9.out
      ·have k110 : (f1 == 110) = false := beq_eq_false_iff_ne.2 h110
       have hs2 : (⟨s.t ++ [⟨f1,⟨#[]⟩,f3,1⟩],r1 ++ [⟨f1,⟨#[]⟩,s.t.length,0,0,⟨#[]⟩⟩]⟩ : RSt) = s' := by
        have := HS'.out
        rw [HR1.out] at this
        unfold zgF at this
        rw [if_neg h110] at this
        exact this
       have HS2 := Lib.hid hs2
       clear h110 hs2
       obtain ⟨i0,hi,hz0,hz1,hz2⟩ := info_parts ycJ
       have hrow : W5.ownsRow w.heap.size 159 6 (.slice (some ⟨gr,0,none⟩) (n + 1) cr) (n + 1) (zeD r1) := by
        have := HT1.out.row
        unfold Row9 at this
        rw [HRL.out] at this
        exact this
       go_wp2_with (at_builtin;refine wpList_append_own_at _ rfl _ _ 105 rfl w.heap.size 159 i0 (.agg #[(.int .u8 0),(.string ⟨#[]⟩),(.int .i64 0),(.int .i64 0),(.int .i64 0),(.string ⟨#[]⟩)]) 6 64 Try.underlying105 hi hz0 hz1 hz2 rfl (by decide) _ _ _ rfl (hrow.alloc _) _ 1 1 (zbL ⟨f1,⟨#[]⟩,s.t.length,0,0,⟨#[]⟩⟩) rfl rfl ?e1a ?e2a ?e3a ?e4a ?e5a ?e6a)
       case e1a => exact zgK W5 (zbL ⟨f1,⟨#[]⟩,s.t.length,0,0,⟨#[]⟩⟩) 159
       case e2a => simp [zbL,Value.oneCell']
       case e3a => unfold maxLen;omega
       case e4a => omega
       case e5a => have := HB5.out.size;simp;omega
       case e6a =>
        intro v' W6 hown' hgrow _ _
        obtain ⟨A',c',rfl⟩ := zbB hown'
        have hq6 := zxF (x := ⟨f1,⟨#[]⟩,s.t.length,0,0,⟨#[]⟩⟩) HT1.out hgrow (by show W6.ownsRow w.heap.size 159 6 _ (r1.length + 1) (zeD r1 ++ zbL _);rw [HRL.out];exact hown')
        have hb6 : Below w.heap.size w W6 := ((HB5.out.alloc HB5.out.size _)).grown hgrow (by have := HB5.out.size;simp;omega) fun k hk => zcZ hrow k hk
        have HQ6 := Lib.hid hq6
        have HB6 := Lib.hid hb6
        clear hown' hgrow hq6 hb6 hrow p0 p1 p2 p3
        go_wp2_with fail
        obtain ⟨W7,hW7⟩ : ∃ W7,W6.drew = W7 := ⟨_,rfl⟩
        have HB7 := Lib.hid (show Below w.heap.size w W7 by rw [← hW7];exact zaJ HB6.out)
        have HQ7 := Lib.hid (HQ6.out.below (show Below W6.heap.size W6 W7 by rw [← hW7];exact zaJ (Below.refl _ _)))
        have HW7 := Lib.hid hW7
        clear hW7
        refine Go.Mix.region_mix' (fun b W => W = (bif b then W7.alloc (.cells #[.int .u8 f1,.string ⟨#[]⟩,.int .i64 f3,.int .i64 1] 56) else W7)) 12 13 [] (by kernel_rfl) (by kernel_rfl) (fun _ _ _ _ _ h => h) HW7.out ?_
        refine Go.Mix.seqE_nil ?_
        repeat
         apply Go.Mix.seqM_cons (by rfl) (by rfl)
         focus
          intro b W hS
          have hB : Below w.heap.size w W := by
           rw [hS]
           cases b
           ·exact HB7.out
           ·exact HB7.out.alloc HB7.out.size _
          obtain ⟨p0,p1,p2,p3⟩ := HQ.out W hB
          have HSS := Lib.hid hS
          clear hS hB
          go_wp2
          exact Go.Det.AtEnd.mk HSS.out
        apply Go.Mix.seqM_main (by rfl)
        focus
         intro W hS
         obtain rfl : W = W7 := hS
         go_wp2
         exact Go.Det.AtEnd.mk rfl
        refine Go.Mix.seqM_nil ?_
        intro W8 hW8
        obtain rfl : W8 = W7.alloc (.cells #[.int .u8 f1,.string ⟨#[]⟩,.int .i64 f3,.int .i64 1] 56) := hW8
        simp only [List.drop_succ_cons,List.drop_zero]
        obtain ⟨j0,gi,gz0,gz1,gz2⟩ := info_parts zfU
        have hrow7 : W7.ownsRow w.heap.size 56 4 (.slice At s.t.length ct) s.t.length (zaU s.t) := HQ7.out.t
        go_wp2_with (at_builtin;refine wpList_append_own_at _ rfl _ _ 50 rfl w.heap.size 56 j0 (.agg #[(.int .u8 0),(.string ⟨#[]⟩),(.int .i64 0),(.int .i64 0)]) 4 40 Try.underlying50 gi gz0 gz1 gz2 rfl (by decide) _ _ _ rfl (hrow7.alloc _) _ 1 1 (zdJ ⟨f1,⟨#[]⟩,f3,1⟩) rfl rfl ?d1b ?d2b ?d3b ?d4b ?d5b ?d6b)
        case d1b => exact zgK W7 (zdJ ⟨f1,⟨#[]⟩,f3,1⟩) 56
        case d2b => simp [zdJ,Value.oneCell']
        case d3b => unfold maxLen;omega
        case d4b => omega
        case d5b => have := HB7.out.size;simp;omega
        case d6b =>
         intro v8 W9 hown' hgrow _ _
         have hq9 := zqQ (x := ⟨f1,⟨#[]⟩,f3,1⟩) HQ7.out hgrow hown'
         have hb9 : Below w.heap.size w W9 := ((HB7.out.alloc HB7.out.size _)).grown hgrow (by have := HB7.out.size;simp;omega) fun k hk => zcZ hrow7 k hk
         have HQ9 := Lib.hid hq9
         have HB9 := Lib.hid hb9
         clear hown' hgrow hq9 hb9 hrow7
         go_wp2_with fail
         refine ⟨⟨k + 1,s',by omega,by simp,?_,HRB2.out,HB9.out,HST.out⟩,by simp only [intOf];omega⟩
         rw [← HS2.out]
         exact HQ9.out
     ·have e1 : (f0 == 1) = false := beq_eq_false_iff_ne.2 h1
      have e2 : (f0 == 2) = false := beq_eq_false_iff_ne.2 h2
      have hs := HS.out
      unfold zgN at hs
      rw [if_neg h1,if_neg h2] at hs
      by_cases hc : 2 ≤ s.r.length ∧ 0 ≤ (topR s.r).f2 ∧ (topR s.r).f2 < s.t.length
      ·rw [if_pos hc] at hs
       have hs' := Option.some.inj hs
       obtain ⟨hc2,hc3,hc4⟩ := hc
       obtain ⟨n,hn⟩ : ∃ n,s.r.length = n + 1 := ⟨s.r.length - 1,by omega⟩
       obtain ⟨m,hm⟩ : ∃ m,n = m + 1 := ⟨n - 1,by omega⟩
       have htop : topR s.r = s.r.getD n z159 := by unfold topR zaC;rw [hn];simp
       obtain ⟨p,hp⟩ : ∃ p : Nat,(topR s.r).f2 = (p : Int) := ⟨(topR s.r).f2.toNat,by omega⟩
       have hpl : p < s.t.length := by omega
       obtain ⟨gt,ct',et⟩ := zzT HAT.out.t (by omega)
       simp only [Value.slice.injEq] at et
       obtain ⟨rfl,-,rfl⟩ := et
       rw [hp] at hs'
       have HS' := Lib.hid hs'
       have HTOP := Lib.hid htop
       have HP := Lib.hid hp
       have HAT2 := Lib.hid (show RAt wr w.heap.size (.slice (some ⟨gr,0,none⟩) (n + 1) cr) (.slice (some ⟨gt,0,none⟩) s.t.length ct) s from hn ▸ HAT.out)
       have HN := Lib.hid hn
       have HNM := Lib.hid hm
       have hcell := fun W (hW : Below wr.heap.size wr W) => zgP (HAT2.out.below hW).row n 2 (by omega) (by omega)
       rw [← htop] at hcell
       simp only [zbL,List.getElem?_cons_succ,List.getElem?_cons_zero,hp] at hcell
       have HC2 := Lib.hid hcell
       have hnb : n ≤ 800000 := by omega
       have htb : s.t.length ≤ 800000 := by omega
       rw [hn]
       clear hs hs' h1 h2 hcell hp htop hc2 hc3 hc4 hn hm
       go_wp2_with fail
       refine Go.Det.region_det (fun W' => Below wr.heap.size wr W') 16 (by kernel_rfl) (by kernel_rfl) (by kernel_rfl) (by decide) (ziC (Below.refl _ _)) ?_
       repeat (apply Go.Det.seqW_cons;focus (intro W' hS';replace hS' : Below wr.heap.size wr W' := hS';have hcc := HC2.out W' hS';have HS2 := Lib.hid hS';clear hS';go_wp2;exact Go.Det.AtEnd.mk HS2.out))
       refine Go.Det.seqW_nil ?_
       intro W' hS'
       replace hS' : Below wr.heap.size wr W' := hS'
       obtain ⟨t1,t2,t3⟩ := (HAT2.out.below hS').setT p 3 hpl (by omega) (zlN ((s.t.length : Int) - p)) (.int .i64 ((s.t.length : Int) - p)) rfl
       obtain ⟨W6,hW6⟩ : ∃ W6,W'.setCell ⟨gt,p * 4 + 3,none⟩ (.int .i64 ((s.t.length : Int) - p)) = W6 := ⟨_,rfl⟩
       rw [hW6] at t1 t2
       have hB6 : Below w.heap.size w W6 := (HW.out.trans (hS'.mono HW.out.size)).trans t2
       have HT1 := Lib.hid t1
       have HB6 := Lib.hid hB6
       have hz0 := fun i hi => zgP t1.row n i (by show n < s.r.length;have := HN.out;omega) hi
       have hz1 := fun i hi => zgP t1.row m i (by show m < s.r.length;have := HN.out;have := HNM.out;omega) hi
       obtain ⟨o,ho⟩ : ∃ o,topR s.r = o := ⟨_,rfl⟩
       obtain ⟨u,hu⟩ : ∃ u,s.r.getD m z159 = u := ⟨_,rfl⟩
       have a0 := hz0 0 (by omega)
       have a1 := hz0 1 (by omega)
       have b4 := hz1 4 (by omega)
       simp only [← HTOP.out,ho,hu,zbL,List.getElem?_cons_succ,List.getElem?_cons_zero,Nat.add_zero] at a0 a1 b4
       have hao : zhA s.r = if o.f0 = 114 ∧ u.f4 = 0 then s.r.modify m (colR o.f1.size) else s.r := by
        unfold zhA
        have e1 : s.r.length - 2 = m := by have := HN.out;have := HNM.out;omega
        rw [ho,e1]
        have e2 : zaC s.r (m : Int) = u := by rw [← hu];unfold zaC;rw [Int.toNat_natCast]
        rw [e2]
       have HAO := Lib.hid hao
       have hsz : o.f1.size ≤ 800000 := by
        have hmem : o ∈ s.r := by
         rw [← ho,HTOP.out,List.getD_eq_getElem?_getD,List.getElem?_eq_getElem (by have := HN.out;omega)]
         exact List.getElem_mem _
        have := (HRB.out.ops o hmem).a
        omega
       have hnm : (n : Int) - 1 = (m : Int) := by have := HNM.out;omega
       have HNM2 := Lib.hid hnm
       obtain ⟨o0,o1,o2,o3,o4,o5⟩ := o
       obtain ⟨u0,u1,u2,u3,u4,u5⟩ := u
       simp only at a0 a1 b4 hsz
       have HA0 := Lib.hid a0
       have HA1 := Lib.hid a1
       have HB4 := Lib.hid b4
       have HT3 := Lib.hid t3
       have tc := ygF (HAT2.out.below hS').t p 3 hpl (by omega)
       simp only [zdJ,List.getElem?_cons_succ,List.getElem?_cons_zero] at tc
       have HTC := Lib.hid tc
       have HWW := Lib.hid hW6
       clear hz0 hz1 ho hu hao t1 t2 hB6 a0 a1 b4 t3 hW6 tc
       simp only [List.drop_succ_cons,List.drop_zero]
       have t3 := HT3.out
       have hW6 := HWW.out
       have tc := HTC.out
       have hcn : n ≤ cr := by
        have := HAT2.out.reads.2.1
        omega
       by_cases k1 : o0 = 114
       ·have k1b : (o0 == 114) = true := beq_iff_eq.2 k1
        by_cases k2 : u4 = 0
        ·have k2b : (u4 == 0) = true := beq_iff_eq.2 k2
         have a0 := HA0.out
         have a1 := HA1.out
         have b4 := HB4.out
         have hnm := HNM2.out
         have hao := HAO.out
         rw [if_pos ⟨k1,k2⟩] at hao
         have HAO2 := Lib.hid hao
         obtain ⟨s1,s2,s3⟩ := HT1.out.setR m 4 (by show m < s.r.length;have := HN.out;have := HNM.out;omega) (by omega) (colR o1.size) (.int .i64 o1.size) rfl
         have HS1 := Lib.hid s1
         have HS2 := Lib.hid s2
         clear k1 k2 hao HAO s1 s2
         go_wp2_with fail
         refine ⟨⟨k + 1,s',by omega,by simp,?_,HRB2.out,HB6.out.trans HS2.out,HST.out⟩,by simp only [intOf];omega⟩
         rw [← HS'.out,HAO2.out,Int.toNat_natCast]
         exact HS1.out.dropR
        ·have k2b : (u4 == 0) = false := beq_eq_false_iff_ne.2 k2
         have a0 := HA0.out
         have b4 := HB4.out
         have hnm := HNM2.out
         have hao := HAO.out
         rw [if_neg (fun h => k2 h.2)] at hao
         have HAO2 := Lib.hid hao
         clear k1 k2 hao HAO
         go_wp2_with fail
         refine ⟨⟨k + 1,s',by omega,by simp,?_,HRB2.out,HB6.out,HST.out⟩,by simp only [intOf];omega⟩
         rw [← HS'.out,HAO2.out,Int.toNat_natCast]
         exact HT1.out.dropR
       ·have k1b : (o0 == 114) = false := beq_eq_false_iff_ne.2 k1
        have a0 := HA0.out
        have hao := HAO.out
        rw [if_neg (fun h => k1 h.1)] at hao
        have HAO2 := Lib.hid hao
        clear k1 hao HAO
        go_wp2_with fail
        refine ⟨⟨k + 1,s',by omega,by simp,?_,HRB2.out,HB6.out,HST.out⟩,by simp only [intOf];omega⟩
        rw [← HS'.out,HAO2.out,Int.toNat_natCast]
        exact HT1.out.dropR
      ·rw [if_neg hc] at hs;cases hs
  ·have hlt1 : ¬ (k : Int) < (l.length : Int) := by omega
   have hk2 : k = l.length := by omega
   have hst := HRUN.out
   rw [hk2,List.drop_length] at hst
   have hst2 : s = R := Option.some.inj hst
   have HST := Lib.hid hst2
   clear hst hst2 hk2 HRUN
   go_wp2_with fail
   go_ret2
   exact ⟨_,_,rfl,by rw [← HST.out];exact HAT.out,HW.out⟩
theorem stylusref04_Read.calls (A0 : Option Addr) (c0 : Nat) (l0 : List S47) (r1 : List S56) (r2 : List S159) (w : World) (hr0 : Kd.C k47 w A0 l0.length l0) (hc0 : l0.length ≤ c0) (h : stylusref04_Read.f l0 = some (r1,r2)) :
  Calls Try.prog 95 #[.slice A0 l0.length c0] w fun e w' => ∃ v0_ v1_ : Value,e = .returned (.tuple #[v0_,v1_]) ∧ Kd.R k56 56 w' w.heap.size (fun _ => True) v0_ r1 ∧ Kd.R k159 159 w' w.heap.size (fun _ => True) v1_ r2 ∧ Below w.heap.size w w' := by
 unfold stylusref04_Read.f at h
 by_cases hc : l0.length ≤ 800000 ∧ (l0.all fun x => decide (x.f2.size ≤ 1000000) && decide (0 ≤ x.f1) && decide (x.f1 ≤ 255)) = true
 ·rw [if_pos hc] at h
  obtain ⟨R,hR,he⟩ := Option.map_eq_some_iff.1 h
  simp only [Prod.mk.injEq] at he
  obtain ⟨rfl,rfl⟩ := he
  refine (ydY A0 c0 l0 R w hc.1 (fun x hx => ?_) hr0 hc0 hR).mono ?_
  ·have := List.all_eq_true.1 hc.2 x hx
   simp only [Bool.and_eq_true,decide_eq_true_eq] at this
   exact ⟨this.1.1,this.1.2,this.2⟩
  rintro e w' ⟨v0,v1,rfl,hat,hb⟩
  exact ⟨v0,v1,rfl,zkG hat.t _ (Nat.le_refl _),zzU hat.row _ (Nat.le_refl _),hb⟩
 rw [if_neg hc] at h;cases h
end Go.Proofs.Ythcmfjpheanphaa.Pr
namespace Go.Proofs.Ythcmfjpheanphaa.Pr
open Go.RowKit Go.Proofs.Ythcmfjpheanphaa.Pure Go.Proofs.YthcmfjpheanphaaW.PrintWords
def ziP : List Int := [49,50,51,112,108,105,116,114,99,107,110,101,115]
def tenM : Nat := 1000000
structure OpR (n T : Nat) (o : Opn) (x : S159) : Prop where
 kind : x.f0 = o.kind
 mem : o.kind ∈ ziP
 pos : x.f2 = o.pos
 pin : 0 ≤ o.pos ∧ o.pos < (T : Int)
 kids : o.kids = (x.f1.size : Int)
 kle : x.f1.size ≤ n
 note : x.f3 = o.note
 nle : 0 ≤ o.note ∧ o.note ≤ (n : Int)
 past : o.past = inB 108 x.f1
 cols : x.f4 = o.cols
 cle : 0 ≤ o.cols
 text : o.text = (x.f5.size : Int)
 tle : x.f5.size ≤ n * tenM
theorem OpR.up {n m T U : Nat} {o : Opn} {x : S159} (h : OpR n T o x) (hn : n ≤ m) (ht : T ≤ U) : OpR m U o x :=
 ⟨h.kind,h.mem,h.pos,⟨h.pin.1,by have := h.pin.2;omega⟩,h.kids,Nat.le_trans h.kle hn,h.note,⟨h.nle.1,by have := h.nle.2;omega⟩,h.past,h.cols,h.cle,h.text,Nat.le_trans h.tle (Nat.mul_le_mul_right _ hn)⟩
structure Rel (n : Nat) (s : Bld) (u : RSt) : Prop where
 t : u.t = s.t
 len : u.r.length = s.row.length + 1
 root : (u.r.getD 0 z159).f0 = 0
 op : ∀ i,i < s.row.length → OpR n s.t.length (s.row.getD i zOpn) (u.r.getD (i + 1) z159)
 chain : zfV s.row
theorem zjB {α : Type} (l : List α) (f : α → α) (z : α) : ∀ (j i : Nat),(l.modify j f).getD i z = if i = j ∧ i < l.length then f (l.getD i z) else l.getD i z := by
 intro j i
 simp only [List.getD_eq_getElem?_getD,List.getElem?_modify]
 by_cases h : i < l.length
 ·rw [List.getElem?_eq_getElem h]
  by_cases e : i = j
  ·subst e;simp [h]
  rw [if_neg (by omega)];simp [Ne.symm e]
 rw [List.getElem?_eq_none (by omega),if_neg (by omega)];split <;> rfl
theorem zqR {α : Type} (l : List α) (x z : α) (i : Nat) : (l ++ [x]).getD i z = if i < l.length then l.getD i z else if i = l.length then x else z := by
 simp only [List.getD_eq_getElem?_getD]
 by_cases h : i < l.length
 ·rw [if_pos h,List.getElem?_append_left h]
 rw [if_neg h,List.getElem?_append_right (by omega)]
 by_cases e : i = l.length
 ·subst e;simp
 rw [if_neg e,List.getElem?_eq_none (by simp;omega)];rfl
theorem zjI {α : Type} (l : List α) (z : α) (i : Nat) (h : i + 1 < l.length) : l.dropLast.getD i z = l.getD i z := by
 simp only [List.getD_eq_getElem?_getD,List.getElem?_dropLast]
 rw [if_pos (by omega)]
theorem ycK (r : List Opn) (h : r ≠ []) : topP r = r.getD (r.length - 1) zOpn := by
 unfold topP
 rw [List.getLast?_eq_getElem?,List.getD_eq_getElem?_getD]
theorem zmA (r : List S159) (i : Nat) : zaC r (i : Int) = r.getD i z159 := by
 unfold zaC
 rw [Int.toNat_natCast]
theorem Rel.top {n : Nat} {s : Bld} {u : RSt} (h : Rel n s u) (hr : s.row ≠ []) : OpR n s.t.length (topP s.row) (topR u.r) := by
 have hl : 0 < s.row.length := List.length_pos_iff.mpr hr
 unfold topR
 rw [ycK _ hr,zmA,h.len,Nat.add_sub_cancel]
 have := h.op (s.row.length - 1) (by omega)
 rwa [show s.row.length - 1 + 1 = s.row.length from by omega] at this
theorem Rel.top0 {n : Nat} {s : Bld} {u : RSt} (h : Rel n s u) (hr : s.row = []) : (topR u.r).f0 = 0 := by
 unfold topR
 rw [zmA,h.len,hr]
 exact h.root
theorem Rel.mod {n m : Nat} {s : Bld} {u : RSt} (h : Rel n s u) (hm : n ≤ m) (j : Nat) (f : Opn → Opn) (g : S159 → S159) (hf : ∀ o,(f o).kind = o.kind)
  (hs : ∀ o x,o = s.row.getD j zOpn → OpR n s.t.length o x → OpR m s.t.length (f o) (g x)) : Rel m ⟨s.row.modify j f,s.t⟩ ⟨u.t,u.r.modify (j + 1) g⟩ := by
 refine ⟨h.t,by simp [h.len],?_,fun i hi => ?_,ziS (zgB s.row f hf j) h.chain⟩
 ·show ((u.r.modify (j + 1) g).getD 0 z159).f0 = 0
  rw [zjB,if_neg (by omega)]
  exact h.root
 have hi' : i < s.row.length := by simpa using hi
 show OpR m s.t.length ((s.row.modify j f).getD i zOpn) ((u.r.modify (j + 1) g).getD (i + 1) z159)
 rw [zjB,zjB,h.len]
 have hop := h.op i hi'
 by_cases e : i = j
 ·rw [if_pos ⟨e,hi'⟩,if_pos ⟨by omega,by omega⟩]
  exact hs _ _ (by rw [e]) hop
 rw [if_neg (by omega),if_neg (by omega)]
 exact hop.up hm (Nat.le_refl _)
theorem Rel.up {n m : Nat} {s : Bld} {u : RSt} (h : Rel n s u) (hm : n ≤ m) : Rel m s u :=
 ⟨h.t,h.len,h.root,fun i hi => (h.op i hi).up hm (Nat.le_refl _),h.chain⟩
theorem Rel.node {n : Nat} {s : Bld} {u : RSt} (h : Rel n s u) (x : S56) : Rel n ⟨s.row,s.t ++ [x]⟩ ⟨u.t ++ [x],u.r⟩ :=
 ⟨by show _ ++ _ = _ ++ _;rw [h.t],h.len,h.root,fun i hi => (h.op i hi).up (Nat.le_refl _) (by show _ ≤ (s.t ++ [x]).length;simp),h.chain⟩
theorem Rel.push {n : Nat} {s : Bld} {u : RSt} (h : Rel n s u) {o : Opn} {x : S159} (ho : OpR n s.t.length o x) (hc : zfV (s.row ++ [o])) : Rel n ⟨s.row ++ [o],s.t⟩ ⟨u.t,u.r ++ [x]⟩ := by
 refine ⟨h.t,by simp [h.len],?_,fun i hi => ?_,hc⟩
 ·show ((u.r ++ [x]).getD 0 z159).f0 = 0
  rw [zqR,if_pos (by have := h.len;omega)]
  exact h.root
 have hi' : i < s.row.length + 1 := by have := hi;simpa using this
 clear hi
 show OpR n s.t.length ((s.row ++ [o]).getD i zOpn) ((u.r ++ [x]).getD (i + 1) z159)
 rw [zqR,zqR,h.len]
 by_cases e : i < s.row.length
 ·rw [if_pos e,if_pos (by omega)]
  exact h.op i e
 rw [if_neg e,if_pos (by omega),if_neg (by omega),if_pos (by omega)]
 exact ho
theorem Rel.drop {n : Nat} {s : Bld} {u : RSt} (h : Rel n s u) (hr : s.row ≠ []) : Rel n ⟨s.row.dropLast,s.t⟩ ⟨u.t,u.r.dropLast⟩ := by
 have hl : 0 < s.row.length := List.length_pos_iff.mpr hr
 refine ⟨h.t,by simp only [List.length_dropLast,h.len];omega,?_,fun i hi => ?_,ztM h.chain⟩
 ·show (u.r.dropLast.getD 0 z159).f0 = 0
  rw [zjI _ _ _ (by have := h.len;omega)]
  exact h.root
 have hi' : i < s.row.length - 1 := by simpa using hi
 show OpR n s.t.length (s.row.dropLast.getD i zOpn) (u.r.dropLast.getD (i + 1) z159)
 rw [zjI _ _ _ (by omega),zjI _ _ _ (by have := h.len;omega)]
 exact h.op i (by omega)
theorem Rel.size {n : Nat} {s : Bld} {u : RSt} (h : Rel n s u) (j : Nat) (f : S56 → S56) : Rel n ⟨s.row,s.t.modify j f⟩ ⟨u.t.modify j f,u.r⟩ :=
 ⟨by show _ = _;rw [h.t],h.len,h.root,fun i hi => by show OpR n (s.t.modify j f).length _ _;rw [List.length_modify];exact h.op i hi,h.chain⟩
theorem zoZ (b : Int) (s : ByteArray) : ∀ d i,zmM b s d i = ((List.range' i d).any fun j => decide (j < s.size) && decide (bt s (j : Int) = b) )
 | 0,i => rfl
 | d + 1,i => by
  simp only [zmM,List.range'_succ,List.any_cons]
  rw [← zoZ b s d (i + 1)]
  by_cases h : i < s.size
  ·by_cases hb : bt s (i : Int) = b
   ·simp [h,hb]
   simp [h,hb]
  simp only [h,if_false,decide_false,Bool.false_and,Bool.false_or]
  cases d with
  | zero => rfl
  | succ d => simp only [zmM];rw [if_neg (by omega)]
theorem zmR (s : ByteArray) (l : List Int) (e : (List.range' 0 s.size).map (fun j : Nat => bt s (j : Int)) = l) (c : Int) : inB c s = l.contains c := by
 unfold inB
 rw [zoZ]
 have : ∀ j ∈ List.range' 0 s.size,j < s.size := fun j hj => by simp at hj;omega
 rw [← e,Bool.eq_iff_iff,List.any_eq_true,List.contains_iff_mem,List.mem_map]
 constructor
 ·rintro ⟨j,h1,h2⟩
  simp at h2
  exact ⟨j,h1,h2.2⟩
 rintro ⟨j,h1,h2⟩
 exact ⟨j,h1,by simp [h2,this j h1]⟩
theorem zxG (c : Int) : inB c zfG = zgT.contains c := zmR zfG zgT (by decide +kernel) c
theorem inB_n (c : Int) : inB c nB = [(110 : Int)].contains c := zmR nB _ (by decide +kernel) c
theorem Rel.last {n : Nat} {s : Bld} {u : RSt} (h : Rel n s u) (ks : ByteArray) (kl : List Int) (hk : ∀ c,inB c ks = kl.contains c) : ∀ m,m ≤ s.row.length →
  ziL ks u.r m = (match zbJ kl s.row m with | some j => ((j + 1 : Nat) : Int) | none => -1)
 | 0,_ => rfl
 | m + 1,hm => by
  simp only [ziL,zbJ]
  rw [zmA,(h.op m (by omega)).kind,hk]
  by_cases hc : kl.contains (s.row.getD m zOpn).kind = true
  ·rw [if_pos hc,if_pos hc]
  rw [if_neg hc,if_neg hc]
  exact h.last ks kl hk m (by omega)
theorem Rel.lastP {n : Nat} {s : Bld} {u : RSt} (h : Rel n s u) (ks : ByteArray) (kl : List Int) (hk : ∀ c,inB c ks = kl.contains c) :
  Pr.lastP ks u.r = (match zbJ kl s.row s.row.length with | some j => ((j + 1 : Nat) : Int) | none => -1) := by
 unfold Pr.lastP
 rw [h.len,Nat.add_sub_cancel]
 exact h.last ks kl hk _ (Nat.le_refl _)
theorem zqS (kl : List Int) (r : List Opn) : ∀ n j,zbJ kl r n = some j → j < n ∧ kl.contains (r.getD j zOpn).kind = true
 | 0,j,h => by simp [zbJ] at h
 | n + 1,j,h => by
  simp only [zbJ] at h
  by_cases hc : kl.contains (r.getD n zOpn).kind = true
  ·rw [if_pos hc] at h
   obtain rfl := Option.some.inj h
   exact ⟨by omega,hc⟩
  rw [if_neg hc] at h
  have := zqS kl r n j h
  exact ⟨by omega,this.2⟩
theorem Rel.manyR {n : Nat} {s : Bld} {u : RSt} (h : Rel n s u) (b : Int) : ∀ d i,d + i = s.row.length → Pr.manyR b u.r d (i + 1) = ((s.row.drop i).filter (·.kind == b)).length
 | 0,i,e => by
  rw [List.drop_eq_nil_of_le (by omega)]
  rfl
 | d + 1,i,e => by
  have hi : i < s.row.length := by omega
  have hg : s.row[i] = s.row.getD i zOpn := by rw [List.getD_eq_getElem?_getD,List.getElem?_eq_getElem hi];rfl
  simp only [Pr.manyR]
  rw [h.manyR b d (i + 1) (by omega),zmA,(h.op i hi).kind,List.drop_eq_getElem_cons hi,List.filter_cons,hg]
  by_cases hc : (s.row.getD i zOpn).kind = b
  ·rw [if_pos hc,if_pos (by simpa using hc),List.length_cons]
   omega
  rw [if_neg hc,if_neg (by simpa using hc)]
  omega
theorem Rel.many {n : Nat} {s : Bld} {u : RSt} (h : Rel n s u) (b : Int) : ziY b u.r = hasP b s.row := by
 unfold ziY hasP
 rw [h.len,Nat.add_sub_cancel]
 exact h.manyR b s.row.length 0 (by omega)
theorem zxH : ∀ c ∈ ziP,∀ p : Bool,(if inB c zrJ = true then true else if c = 105 then !p else false) = (if (!okP c 46 || (c == 105 && p && (46 : Int) != 108)) = true then false else true) := by decide +kernel
theorem may46 (r : List Opn) : mayP r 46 = (if (!okP (topP r).kind 46 || ((topP r).kind == 105 && (topP r).past && (46 : Int) != 108)) = true then false else true) := by
 unfold mayP
 rfl
theorem Rel.texts {n : Nat} {s : Bld} {u : RSt} (h : Rel n s u) : zfQ u.r = mayP s.row 46 := by
 unfold zfQ
 rw [may46]
 by_cases hr : s.row = []
 ·rw [h.top0 hr,hr]
  generalize inB 108 _ = b
  revert b
  decide
 have ho := h.top hr
 rw [ho.kind,← ho.past]
 exact zxH _ ho.mem _
theorem ygH : ∀ c ∈ ziP,inB c topB = mayP [] c := by decide +kernel
theorem yjB : ∀ c ∈ ziP,∀ p : Bool,∀ k ∈ [(101 : Int),115,110],(!okP c k || (c == 105 && p && k != 108)) = !(if inB c zrJ = true then true else if c = 105 then !p else false) := by decide +kernel
theorem okO_fin : ∀ c ∈ ziP,∀ k ∈ [(49 : Int),50,51,112,108,105,116,114,99,107],∀ p : Bool,(!okP c k || (c == 105 && p && k != 108)) = !(decide ((c = 105 ∧ k = 108) ∨ (c = 108 ∧ k = 105) ∨ (c = 116 ∧ k = 114) ∨ (c = 114 ∧ k = 99))) := by decide +kernel
theorem ztA {a b : Int} (h : okP a b = true) (hb : b ≠ 46) : b ∈ ziP := by
 unfold okP at h
 simp only [Bool.or_eq_true,Bool.and_eq_true,beq_iff_eq,List.contains_iff_mem,List.mem_cons,List.not_mem_nil,or_false] at h
 simp only [ziP,List.mem_cons,List.not_mem_nil,or_false]
 omega
theorem ycL (c : Int) : inB c topB = [(49 : Int),50,51,112,108,116,107].contains c := zmR topB _ (by decide +kernel) c
theorem inB_esn (c : Int) : inB c esnB = [(101 : Int),115,110].contains c := zmR esnB _ (by decide +kernel) c
theorem inB_ltr (c : Int) : inB c ltrB = [(108 : Int),116,114].contains c := zmR ltrB _ (by decide +kernel) c
theorem Rel.one {n : Nat} {s : Bld} {u : RSt} (h : Rel n s u) : u.r.length = 1 ↔ s.row = [] := by
 rw [h.len,← List.length_eq_zero_iff]
 omega
theorem yjC (c : Int) (hc : c ≠ 46) : mayP [] c = inB c topB := by
 rw [ycL]
 unfold mayP
 have e : topP [] = zOpn := rfl
 rw [e]
 by_cases h : c ∈ ziP
 ·have := ygH c h
  rw [ycL] at this
  rw [this];unfold mayP;rw [e]
 have h1 : okP zOpn.kind c = false := by
  cases hk : okP zOpn.kind c with
  | false => rfl
  | true => exact absurd (ztA hk hc) h
 rw [h1]
 have : [(49 : Int),50,51,112,108,116,107].contains c = false := by
  rw [← Bool.not_eq_true,List.contains_iff_mem]
  intro hm
  apply h
  simp only [ziP,List.mem_cons,List.not_mem_nil,or_false] at hm ⊢
  omega
 rw [this]
 rfl
theorem Rel.opens {n : Nat} {s : Bld} {u : RSt} (h : Rel n s u) (c : Int) (hc : c ≠ 46) : zeZ u.r c = mayP s.row c := by
 unfold zeZ
 by_cases hr : s.row = []
 ·rw [if_pos (h.one.mpr hr),hr,yjC c hc]
 rw [if_neg (fun e => hr (h.one.mp e))]
 have ho := h.top hr
 rw [ho.kind]
 unfold zuU
 rw [h.texts,may46,inB_esn,h.many,ho.kind]
 have hkids : (topP s.row).kids = ((topR u.r).f1.size : Int) := ho.kids
 have hk := ho.mem
 by_cases he : c ∈ [(101 : Int),115,110]
 ·have h1 := yjB _ hk (topP s.row).past c he
  have h2 := zxH _ hk (topP s.row).past
  have hco : [(101 : Int),115,110].contains c = true := by rw [List.contains_iff_mem];exact he
  rw [hco,if_pos rfl]
  have hpair : ¬ (((topP s.row).kind = 105 ∧ c = 108) ∨ ((topP s.row).kind = 108 ∧ c = 105) ∨ ((topP s.row).kind = 116 ∧ c = 114)) := by
   simp only [List.mem_cons,List.not_mem_nil,or_false] at he
   omega
  rw [if_neg hpair]
  unfold mayP
  rw [h1,← h2]
  have h3 : c = 99 → False := by
   simp only [List.mem_cons,List.not_mem_nil,or_false] at he
   omega
  by_cases ht : (topP s.row).kind = 114
  ·rw [if_pos ht,if_neg h3,ht]
   rfl
  rw [if_neg ht]
  by_cases hx : (if inB (topP s.row).kind zrJ = true then true else if (topP s.row).kind = 105 then !(topP s.row).past else false) = true
  ·rw [hx]
   simp only [Bool.not_true,Bool.false_eq_true,if_false,if_true]
   unfold zuT
   rw [h.lastP zfG zgT zxG,h.many]
   by_cases e1 : c = 101 ∨ c = 115
   ·have : (c == 101 || c == 115) = true := by simpa using e1
    rw [if_pos this,if_neg (show ¬ c = 110 by omega)]
    by_cases h0 : 0 < hasP c s.row
    ·rw [if_pos h0];simp;omega
    rw [if_neg h0];simp;omega
   have : ¬ (c == 101 || c == 115) = true := by simpa using e1
   have e2 : c = 110 := by simp only [List.mem_cons,List.not_mem_nil,or_false] at he;omega
   subst e2
   rw [if_neg this,if_pos rfl,show ((110 : Int) == 99) = false from rfl,show ((110 : Int) == 110) = true from rfl,if_neg (show ¬ (false = true) by decide),if_pos (rfl : true = true)]
   by_cases h0 : 0 < hasP 110 s.row
   ·rw [if_pos h0]
    have : (hasP 110 s.row == 0) = false := by simp;omega
    rw [this];rfl
   rw [if_neg h0]
   have : (hasP 110 s.row == 0) = true := by simp;omega
   rw [this,Bool.true_and]
   by_cases h9 : hasP 99 s.row = 0
   ·rw [if_pos h9,h9]
    cases ha : zbJ zgT s.row s.row.length with
    | none => rfl
    | some j =>
    have hj := (zqS _ _ _ _ ha).1
    show (if (0 : Int) < ((j + 1 : Nat) : Int) then ((zaC u.r ((j + 1 : Nat) : Int)).f3 == 0) else false) = ((0 == 0) && ((s.row.getD j zOpn).note == 0))
    rw [if_pos (by omega),zmA,(h.op j hj).note]
    rfl
   rw [if_neg h9]
   have : (hasP 99 s.row == 0) = false := by simpa using h9
   rw [this];rfl
  have hx' := Bool.eq_false_iff.mpr hx
  rw [hx']
  simp
 have hco : [(101 : Int),115,110].contains c = false := by rw [← Bool.not_eq_true,List.contains_iff_mem];exact he
 rw [hco]
 unfold mayP
 by_cases hm : c ∈ ziP
 ·have hm' : c ∈ [(49 : Int),50,51,112,108,105,116,114,99,107] := by
   simp only [ziP,List.mem_cons,List.not_mem_nil,or_false] at hm he ⊢
   omega
  rw [okO_fin _ hk c hm' (topP s.row).past]
  have n1 : (c == 101 || c == 115) = false := by simp only [List.mem_cons,List.not_mem_nil,or_false] at he;simp;omega
  have n2 : (c == 110) = false := by simp only [List.mem_cons,List.not_mem_nil,or_false] at he;simp;omega
  rw [n1,n2]
  by_cases hp : ((topP s.row).kind = 105 ∧ c = 108) ∨ ((topP s.row).kind = 108 ∧ c = 105) ∨ ((topP s.row).kind = 116 ∧ c = 114)
  ·rw [if_pos hp]
   have : decide (((topP s.row).kind = 105 ∧ c = 108) ∨ ((topP s.row).kind = 108 ∧ c = 105) ∨ ((topP s.row).kind = 116 ∧ c = 114) ∨ ((topP s.row).kind = 114 ∧ c = 99)) = true := decide_eq_true (by omega)
   rw [this]
   have n3 : (c == 99) = false := by simp;omega
   rw [n3]
   rfl
  rw [if_neg hp]
  by_cases hq : (topP s.row).kind = 114 ∧ c = 99
  ·have : decide (((topP s.row).kind = 105 ∧ c = 108) ∨ ((topP s.row).kind = 108 ∧ c = 105) ∨ ((topP s.row).kind = 116 ∧ c = 114) ∨ ((topP s.row).kind = 114 ∧ c = 99)) = true := decide_eq_true (by omega)
   rw [this,if_pos hq.1,if_pos hq.2,hq.2,hkids]
   simp
   omega
  have : decide (((topP s.row).kind = 105 ∧ c = 108) ∨ ((topP s.row).kind = 108 ∧ c = 105) ∨ ((topP s.row).kind = 116 ∧ c = 114) ∨ ((topP s.row).kind = 114 ∧ c = 99)) = false := decide_eq_false (by omega)
  rw [this]
  simp only [Bool.not_false,if_true,Bool.false_eq_true,if_false]
  by_cases h1 : (topP s.row).kind = 114
  ·rw [if_pos h1,if_neg (fun e => hq ⟨h1,e⟩)]
  rw [if_neg h1]
  split <;> rfl
 have h1 : okP (topP s.row).kind c = false := by
  cases hq : okP (topP s.row).kind c with
  | false => rfl
  | true => exact absurd (ztA hq hc) hm
 have hp : ¬ (((topP s.row).kind = 105 ∧ c = 108) ∨ ((topP s.row).kind = 108 ∧ c = 105) ∨ ((topP s.row).kind = 116 ∧ c = 114)) := by
  simp only [ziP,List.mem_cons,List.not_mem_nil,or_false] at hm
  omega
 have h9 : c ≠ 99 := by
  simp only [ziP,List.mem_cons,List.not_mem_nil,or_false] at hm
  omega
 rw [h1,if_neg hp,if_neg h9]
 simp
theorem zrP (c : Int) (s : ByteArray) : inB c s = true ↔ ∃ j,j < s.size ∧ bt s (j : Int) = c := by
 unfold inB
 rw [zoZ,List.any_eq_true]
 constructor
 ·rintro ⟨j,h1,h2⟩
  simp at h2
  exact ⟨j,h2⟩
 rintro ⟨j,h1,h2⟩
 exact ⟨j,by simp;omega,by simp [h1,h2]⟩
theorem inB_app (c : Int) (a b : ByteArray) : inB c (a ++ b) = (inB c a || inB c b) := by
 rw [Bool.eq_iff_iff,Bool.or_eq_true,zrP,zrP,zrP,ByteArray.size_append]
 constructor
 ·rintro ⟨j,h1,h2⟩
  by_cases hj : j < a.size
  ·exact .inl ⟨j,hj,by rw [← bt_app_left a b j hj];exact h2⟩
  refine .inr ⟨j - a.size,by omega,?_⟩
  rw [← bt_app_right a b (j - a.size) (by omega),← h2]
  congr 2
  omega
 rintro (⟨j,h1,h2⟩ | ⟨j,h1,h2⟩)
 ·exact ⟨j,by omega,by rw [bt_app_left a b j h1];exact h2⟩
 exact ⟨a.size + j,by omega,by rw [bt_app_right a b j h1];exact h2⟩
theorem yjD (c k : Int) (h0 : 0 ≤ k) (h1 : k ≤ 255) : inB c (zdC k) = decide (k = c) := by
 have hb : bt (zdC k) ((0 : Nat) : Int) = k := by
  obtain ⟨n,rfl⟩ : ∃ n : Nat,k = n := ⟨k.toNat,by omega⟩
  show (((Int.toNat (n : Int)).toUInt8.toNat : Nat) : Int) = (n : Int)
  rw [Int.toNat_natCast]
  have : (n.toUInt8).toNat = n % 256 := by simp
  rw [this,Nat.mod_eq_of_lt (by omega)]
 rw [Bool.eq_iff_iff,zrP,decide_eq_true_eq]
 constructor
 ·rintro ⟨j,h1,h2⟩
  obtain rfl : j = 0 := by
   have : j < 1 := h1
   omega
  rw [← hb];exact h2
 rintro rfl
 exact ⟨0,by show 0 < 1;omega,hb⟩
theorem inB_dot : inB 108 dotB = false := by decide +kernel
theorem Rel.rootmod {n : Nat} {s : Bld} {u : RSt} (h : Rel n s u) (g : S159 → S159) (hg : ∀ x,(g x).f0 = x.f0) : Rel n s ⟨u.t,u.r.modify 0 g⟩ := by
 refine ⟨h.t,by show (u.r.modify 0 g).length = _;rw [List.length_modify];exact h.len,?_,fun i hi => ?_,h.chain⟩
 ·show ((u.r.modify 0 g).getD 0 z159).f0 = 0
  rw [zjB]
  split
  ·rw [hg];exact h.root
  exact h.root
 show OpR n s.t.length (s.row.getD i zOpn) ((u.r.modify 0 g).getD (i + 1) z159)
 rw [zjB,if_neg (by omega)]
 exact h.op i hi
theorem OpR.kid {n T : Nat} {o : Opn} {x : S159} (h : OpR n T o x) (hn : n ≤ 8000000) (b : ByteArray) (hb : b.size = 1) (p : Bool) (hp : p = (o.past || inB 108 b)) : OpR (n + 1) T (kidF { o with past := p }) (kidR b x) := by
 have hk := h.kle
 refine ⟨h.kind,h.mem,h.pos,h.pin,?_,?_,h.note,⟨h.nle.1,by have := h.nle.2;show o.note ≤ _;omega⟩,?_,h.cols,h.cle,h.text,Nat.le_trans h.tle (Nat.mul_le_mul_right _ (by omega))⟩
 ·show wrap64 (o.kids + 1) = ((x.f1 ++ b).size : Int)
  rw [h.kids,ByteArray.size_append,hb,IntWalk.wrap64_in _ ⟨by omega,by omega⟩]
  omega
 ·show (x.f1 ++ b).size ≤ n + 1
  rw [ByteArray.size_append,hb]
  omega
 show p = inB 108 (x.f1 ++ b)
 rw [hp,inB_app,h.past]
theorem OpR.note1 {n T : Nat} {o : Opn} {x : S159} (h : OpR n T o x) (hn : n ≤ 8000000) : OpR (n + 1) T (zjM o) (ziZ x) := by
 have h1 := h.nle
 refine ⟨h.kind,h.mem,h.pos,h.pin,h.kids,by have := h.kle;show x.f1.size ≤ n + 1;omega,?_,?_,h.past,h.cols,h.cle,h.text,Nat.le_trans h.tle (Nat.mul_le_mul_right _ (by omega))⟩
 ·show x.f3 + 1 = wrap64 (o.note + 1)
  rw [h.note,IntWalk.wrap64_in _ ⟨by omega,by omega⟩]
 show 0 ≤ wrap64 (o.note + 1) ∧ wrap64 (o.note + 1) ≤ ((n + 1 : Nat) : Int)
 rw [IntWalk.wrap64_in _ ⟨by omega,by omega⟩]
 omega
theorem OpR.txt {n T : Nat} {o : Opn} {x : S159} (h : OpR n T o x) (hn : n ≤ 8000000) (b : ByteArray) (hb : b.size ≤ 1000000) : OpR (n + 1) T (zgJ b.size o) (zoV b x) := by
 have ht := h.tle
 unfold tenM at ht
 refine ⟨h.kind,h.mem,h.pos,h.pin,h.kids,by have := h.kle;show x.f1.size ≤ n + 1;omega,h.note,⟨h.nle.1,by have := h.nle.2;show o.note ≤ _;omega⟩,h.past,h.cols,h.cle,?_,?_⟩
 ·show wrap64 (o.text + b.size) = ((x.f5 ++ b).size : Int)
  rw [h.text,ByteArray.size_append,IntWalk.wrap64_in _ ⟨by omega,by omega⟩]
  omega
 show (x.f5 ++ b).size ≤ (n + 1) * tenM
 unfold tenM
 rw [ByteArray.size_append]
 omega
theorem OpR.col {n T : Nat} {o : Opn} {x : S159} (h : OpR n T o x) (c : Nat) : OpR n T (zhO c o) (colR c x) :=
 ⟨h.kind,h.mem,h.pos,h.pin,h.kids,h.kle,h.note,h.nle,h.past,rfl,by show (0 : Int) ≤ (c : Int);omega,h.text,h.tle⟩
theorem yjE {α : Type} (l : List α) (f g : α → α) (hfg : ∀ a,f (g a) = g (f a)) (i j : Nat) : (l.modify i f).modify j g = (l.modify j g).modify i f := by
 refine List.ext_getElem? fun k => ?_
 simp only [List.getElem?_modify]
 cases l[k]? with
 | none => simp
 | some a =>
 by_cases h1 : i = k <;> by_cases h2 : j = k <;> simp [h1,h2,hfg]
theorem yjF {α : Type} (l : List α) (g : α → α) (i : Nat) : (l.modify i g).dropLast = l.dropLast.modify i g := by
 refine List.ext_getElem? fun k => ?_
 simp only [List.getElem?_modify,List.getElem?_dropLast,List.length_modify]
 split <;> simp
theorem mod_two {α : Type} (l : List α) (f g : α → α) (i : Nat) : (l.modify i f).modify i g = l.modify i (fun a => g (f a)) := by
 refine List.ext_getElem? fun k => ?_
 simp only [List.getElem?_modify]
 cases l[k]? with
 | none => simp
 | some a => by_cases h1 : i = k <;> simp [h1]
theorem row_ne {r : List Opn} (h : mayP r 46 = true) : r ≠ [] := by
 rintro rfl
 revert h
 decide
theorem znP (ks : List Int) (f : Opn → Opn) (hf : ∀ o,(f o).kind = o.kind) (r : List Opn) (j : Nat) : ∀ n,zbJ ks (r.modify j f) n = zbJ ks r n
 | 0 => rfl
 | n + 1 => by
  simp only [zbJ]
  rw [znP ks f hf r j n]
  have : ((r.modify j f).getD n zOpn).kind = (r.getD n zOpn).kind := by
   rw [zjB]
   split
   ·exact hf _
   rfl
  rw [this]
def LexF (x : S47) : Prop := (x.f0 = 1 ∨ x.f0 = 2 ∨ x.f0 = 3) ∧ 0 ≤ x.f1 ∧ x.f1 ≤ 255 ∧ x.f2.size ≤ 1000000 ∧ (x.f0 = 2 → x.f1 ≠ 46)
theorem yjG {n : Nat} {s : Bld} {u : RSt} (h : Rel n s u) (hn : n ≤ 7000000) (x : S47) (hx : x.f2.size ≤ 1000000) (hm : mayP s.row 46 = true) :
  Rel (n + 2) (zdW s x).1 ⟨u.t ++ [⟨46,x.f2,x.f3,1⟩],zjH x.f2 (u.r.modify (u.r.length - 1) (kidR dotB))⟩ := by
 have hr := row_ne hm
 have hl : 0 < s.row.length := List.length_pos_iff.mpr hr
 have e1 : u.r.length - 1 = (s.row.length - 1) + 1 := by have := h.len;omega
 have hk : Rel (n + 1) ⟨kidP s.row,s.t⟩ ⟨u.t,u.r.modify (u.r.length - 1) (kidR dotB)⟩ := by
  rw [e1]
  exact h.mod (Nat.le_succ n) _ kidF (kidR dotB) (fun _ => rfl) fun o y _ ho => by
   have := ho.kid (by omega) dotB rfl o.past (by rw [inB_dot,Bool.or_false])
   exact this
 have hlast := hk.lastP nB [110] inB_n
 unfold zdW zjH
 rw [if_pos hm]
 rw [hlast]
 cases ha : zbJ [110] (kidP s.row) (kidP s.row).length with
 | none =>
  show Rel (n + 2) ⟨kidP s.row,s.t ++ [⟨46,x.f2,x.f3,1⟩]⟩ ⟨u.t ++ [⟨46,x.f2,x.f3,1⟩],if (0 : Int) < -1 then _ else _⟩
  rw [if_neg (by omega)]
  exact (hk.up (Nat.le_succ _)).node _
 | some j =>
 show Rel (n + 2) ⟨(kidP s.row).modify j (zgJ x.f2.size),s.t ++ [⟨46,x.f2,x.f3,1⟩]⟩ ⟨u.t ++ [⟨46,x.f2,x.f3,1⟩],if (0 : Int) < ((j + 1 : Nat) : Int) then (u.r.modify (u.r.length - 1) (kidR dotB)).modify (((j + 1 : Nat) : Int)).toNat (zoV x.f2) else _⟩
 rw [if_pos (by omega),Int.toNat_natCast]
 exact (hk.mod (Nat.le_succ _) j (zgJ x.f2.size) (zoV x.f2) (fun _ => rfl) fun o y _ ho => ho.txt (by omega) x.f2 hx).node _
theorem yjH {n : Nat} {s : Bld} {u : RSt} (h : Rel n s u) (hn : n ≤ 7000000) (x : S47) (h0 : 0 ≤ x.f1) (h1 : x.f1 ≤ 255) (h46 : x.f1 ≠ 46) (hm : mayP s.row x.f1 = true) (hc : zfV (zdQ s x).1.row) :
  Rel (n + 2) (zdQ s x).1 ⟨u.t ++ [⟨x.f1,⟨#[]⟩,x.f3,1⟩],zgF x.f1 (u.r.modify (u.r.length - 1) (kidR (zdC x.f1))) ++ [⟨x.f1,⟨#[]⟩,u.t.length,0,0,⟨#[]⟩⟩]⟩ := by
 have hin := yjD 108 x.f1 h0 h1
 have hmem := ztA (ybS hm) h46
 have hmark : Rel (n + 2) ⟨kidP (zcY s.row x.f1),s.t⟩ ⟨u.t,zgF x.f1 (u.r.modify (u.r.length - 1) (kidR (zdC x.f1)))⟩ := by
  by_cases hr : s.row = []
  ·have h110 : x.f1 ≠ 110 := by
    intro e
    rw [hr,e] at hm
    revert hm
    decide
   unfold zgF
   rw [if_neg h110]
   have e0 : u.r.length - 1 = 0 := by have := h.len;rw [hr] at this;simp at this;omega
   rw [e0]
   have e2 : kidP (zcY s.row x.f1) = s.row := by
    rw [hr]
    unfold zcY
    rw [if_neg h110]
    split <;> rfl
   rw [e2]
   exact (h.rootmod (kidR (zdC x.f1)) (fun _ => rfl)).up (by omega)
  have hl : 0 < s.row.length := List.length_pos_iff.mpr hr
  have e1 : u.r.length - 1 = (s.row.length - 1) + 1 := by have := h.len;omega
  rw [e1]
  unfold kidP
  rw [zhT]
  unfold zcY zgF
  by_cases e110 : x.f1 = 110
  ·rw [if_pos e110,if_pos e110]
   have hkm : Rel (n + 1) ⟨s.row.modify (s.row.length - 1) kidF,s.t⟩ ⟨u.t,u.r.modify (s.row.length - 1 + 1) (kidR (zdC x.f1))⟩ :=
    h.mod (Nat.le_succ n) _ kidF (kidR (zdC x.f1)) (fun _ => rfl) fun o y _ ho => by
     have := ho.kid (by omega) (zdC x.f1) rfl o.past (by rw [hin,e110];simp)
     exact this
   rw [hkm.lastP zfG zgT zxG,List.length_modify,znP zgT kidF (fun _ => rfl)]
   cases ha : zbJ zgT s.row s.row.length with
   | none =>
    exfalso
    rw [e110] at hm
    unfold mayP at hm
    rw [ha] at hm
    revert hm
    split
    ·intro hm;cases hm
    simp
   | some j =>
   show Rel (n + 2) ⟨(s.row.modify j zjM).modify (s.row.length - 1) kidF,s.t⟩ ⟨u.t,(u.r.modify (s.row.length - 1 + 1) (kidR (zdC x.f1))).modify (mx ((j + 1 : Nat) : Int) 0).toNat ziZ⟩
   have emx : mx ((j + 1 : Nat) : Int) 0 = ((j + 1 : Nat) : Int) := by unfold mx;rw [if_neg (by omega)]
   rw [emx,Int.toNat_natCast,yjE s.row zjM kidF (fun _ => rfl)]
   exact hkm.mod (Nat.le_succ _) j zjM ziZ (fun _ => rfl) fun o y _ ho => ho.note1 (by omega)
  rw [if_neg e110,if_neg e110]
  by_cases e108 : x.f1 = 108
  ·rw [if_pos e108,mod_two]
   exact h.mod (by omega) _ (fun o => kidF (zmY o)) (kidR (zdC x.f1)) (fun _ => rfl) fun o y _ ho => by
    have := ho.kid (by omega) (zdC x.f1) rfl true (by rw [hin,e108];simp)
    exact this.up (Nat.le_succ _) (Nat.le_refl _)
  rw [if_neg e108]
  exact h.mod (by omega) _ kidF (kidR (zdC x.f1)) (fun _ => rfl) fun o y _ ho => by
   have := ho.kid (by omega) (zdC x.f1) rfl o.past (by rw [hin];simp [e108])
   exact this.up (Nat.le_succ _) (Nat.le_refl _)
 unfold zdQ at hc ⊢
 rw [if_pos hm] at hc ⊢
 have hnode := hmark.node ⟨x.f1,⟨#[]⟩,x.f3,1⟩
 have ht : u.t.length = s.t.length := by rw [h.t]
 refine hnode.push (o := ⟨x.f1,s.t.length,0,0,false,0,0⟩) (x := ⟨x.f1,⟨#[]⟩,u.t.length,0,0,⟨#[]⟩⟩) ⟨rfl,hmem,?_,?_,rfl,Nat.zero_le _,rfl,⟨by show (0 : Int) ≤ 0;omega,by show (0 : Int) ≤ _;omega⟩,by show false = inB 108 ⟨#[]⟩;decide +kernel,rfl,by show (0 : Int) ≤ 0;omega,rfl,Nat.zero_le _⟩ hc
 ·show (u.t.length : Int) = _
  rw [ht]
 show (0 : Int) ≤ (s.t.length : Int) ∧ (s.t.length : Int) < ((s.t ++ [_]).length : Int)
 simp
 omega
theorem zqT {r : List Opn} (hr : zfV r) (hne : r ≠ []) (h1 : (topP r).kind = 114) : 2 ≤ r.length ∧ zbJ [116] r.dropLast r.dropLast.length = some (r.length - 2) ∧ (r.getD (r.length - 2) zOpn).kind = 116 := by
 have hl : 0 < r.length := List.length_pos_iff.mpr hne
 rw [ycK r hne,List.getD_eq_getElem?_getD,List.getElem?_eq_getElem (show r.length - 1 < r.length by omega)] at h1
 obtain ⟨g1,g2⟩ := hr (r.length - 1) (by rw [List.getElem?_eq_getElem (show r.length - 1 < r.length by omega)];simpa using h1)
 rw [show r.length - 1 - 1 = r.length - 2 from by omega] at g2
 have g3 : (r.getD (r.length - 2) zOpn).kind = 116 := by
  rw [List.getElem?_eq_getElem (show r.length - 2 < r.length by omega)] at g2
  rw [List.getD_eq_getElem?_getD,List.getElem?_eq_getElem (show r.length - 2 < r.length by omega)]
  simpa using g2
 refine ⟨by omega,?_,g3⟩
 rw [List.length_dropLast,show r.length - 1 = (r.length - 2) + 1 from by omega]
 simp only [zbJ]
 rw [zjI _ _ _ (by omega),g3]
 rfl
def zuW (s : Bld) : Bool := if s.row = [] then false else (zcW s.row.dropLast (topP s.row)).2
theorem ygI (s : Bld) (x : S47) : (zdX s x).2 = (x.f3,if zuW s = true then 0 else 2) := by
 unfold zdX zuW
 by_cases hr : s.row = []
 ·rw [if_pos hr,if_pos hr];rfl
 rw [if_neg hr,if_neg hr]
theorem ygJ {n : Nat} {s : Bld} {u : RSt} (h : Rel n s u) (x : S47) (o : Bool) (h3 : x.f0 = 3) : zeS o u x = if zuW s = true then (0,0) else (x.f3,2) := by
 unfold zeS zuW
 rw [if_neg (show ¬ x.f0 = 1 by omega),if_neg (show ¬ x.f0 = 2 by omega),inB_ltr]
 by_cases hr : s.row = []
 ·rw [if_pos hr,if_pos (show u.r.length = 1 ∨ _ from .inl (h.one.mpr hr))]
  rfl
 have hl : 0 < s.row.length := List.length_pos_iff.mpr hr
 have ho := h.top hr
 have n1 : ¬ u.r.length = 1 := fun e => hr (h.one.mp e)
 rw [if_neg hr,ho.kind]
 have hkids := ho.kids
 unfold zcW
 by_cases k1 : (topP s.row).kind = 108 ∨ (topP s.row).kind = 116
 ·have hc : [(108 : Int),116,114].contains (topP s.row).kind = true := by
   rw [List.contains_iff_mem]
   simp only [List.mem_cons,List.not_mem_nil,or_false]
   omega
  rw [hc,if_pos k1]
  by_cases hz : (topR u.r).f1.size = 0
  ·rw [if_pos (show u.r.length = 1 ∨ (true = true ∧ _) from .inr ⟨rfl,hz⟩)]
   show _ = if decide (0 < (topP s.row).kids) = true then _ else _
   rw [if_neg (by rw [decide_eq_true_eq,hkids,hz];omega)]
  rw [if_neg (fun (e : u.r.length = 1 ∨ _ ∧ _) => e.elim n1 fun e => hz e.2),if_neg (show ¬ (topP s.row).kind = 114 by omega)]
  show _ = if decide (0 < (topP s.row).kids) = true then _ else _
  rw [if_pos (by rw [decide_eq_true_eq,hkids];omega)]
 rw [if_neg k1]
 by_cases k2 : (topP s.row).kind = 114
 ·have hc : [(108 : Int),116,114].contains (topP s.row).kind = true := by
   rw [k2];rfl
  obtain ⟨g1,g2,g3⟩ := zqT h.chain hr k2
  have hp := h.op (s.row.length - 2) (by omega)
  have ei : s.row.length - 2 + 1 = u.r.length - 2 := by have := h.len;omega
  rw [hc,if_pos k2,g2,if_pos k2,zmA]
  rw [ei] at hp
  have hcols := hp.cols
  have hcle := hp.cle
  have eg : s.row.dropLast.getD (s.row.length - 2) zOpn = s.row.getD (s.row.length - 2) zOpn := zjI _ _ _ (by omega)
  rw [hcols]
  generalize s.row.getD (s.row.length - 2) zOpn = P at *
  by_cases hz : (topR u.r).f1.size = 0
  ·rw [if_pos (show u.r.length = 1 ∨ (true = true ∧ _) from .inr ⟨rfl,hz⟩)]
   simp only [eg]
   have : decide (0 < (topP s.row).kids) = false := by rw [decide_eq_false_iff_not,hkids,hz];omega
   rw [this]
   split <;> rfl
  rw [if_neg (fun (e : u.r.length = 1 ∨ _ ∧ _) => e.elim n1 fun e => hz e.2)]
  have : decide (0 < (topP s.row).kids) = true := by rw [decide_eq_true_eq,hkids];omega
  simp only [eg,this,Bool.true_and]
  by_cases hc0 : P.cols = 0
  ·rw [if_neg (by omega),if_pos hc0]
   rfl
  rw [if_pos (by omega),if_neg hc0]
  by_cases hq : P.cols = ((topR u.r).f1.size : Int)
  ·have : ((topP s.row).kids == P.cols) = true := by rw [beq_iff_eq,hkids,hq]
   rw [if_pos hq]
   simp only [this]
   rfl
  have : ((topP s.row).kids == P.cols) = false := by rw [beq_eq_false_iff_ne,hkids];exact fun e => hq e.symm
  rw [if_neg hq]
  simp only [this]
  rfl
 have hc : [(108 : Int),116,114].contains (topP s.row).kind = false := by
  rw [← Bool.not_eq_true,List.contains_iff_mem]
  simp only [List.mem_cons,List.not_mem_nil,or_false]
  omega
 rw [hc,if_neg k2,if_neg k2,if_neg (fun (e : u.r.length = 1 ∨ _ ∧ _) => e.elim n1 fun e => by cases e.1)]
 rfl
theorem yjI {n : Nat} {s : Bld} {u : RSt} (h : Rel n s u) (x : S47) (hok : (zdX s x).2.2 = 0) :
  2 ≤ u.r.length ∧ 0 ≤ (topR u.r).f2 ∧ (topR u.r).f2 < u.t.length ∧ Rel n (zdX s x).1 ⟨u.t.modify (topR u.r).f2.toNat (zlN (u.t.length - (topR u.r).f2)),(zhA u.r).dropLast⟩ := by
 by_cases hr : s.row = []
 ·unfold zdX at hok
  rw [if_pos hr] at hok
  cases hok
 have hl : 0 < s.row.length := List.length_pos_iff.mpr hr
 have ho := h.top hr
 have hpin := ho.pin
 refine ⟨by have := h.len;omega,by rw [ho.pos];exact hpin.1,by rw [ho.pos,h.t];exact hpin.2,?_⟩
 unfold zdX
 rw [if_neg hr,ho.pos,h.t]
 have hd := h.drop hr
 have key : Rel n ⟨(zcW s.row.dropLast (topP s.row)).1,s.t⟩ ⟨u.t,(zhA u.r).dropLast⟩ := by
  unfold zcW zhA
  rw [ho.kind]
  by_cases k2 : (topP s.row).kind = 114
  ·obtain ⟨g1,g2,g3⟩ := zqT h.chain hr k2
   have hp := h.op (s.row.length - 2) (by omega)
   have ei : s.row.length - 2 + 1 = u.r.length - 2 := by have := h.len;omega
   rw [ei] at hp
   have eg : s.row.dropLast.getD (s.row.length - 2) zOpn = s.row.getD (s.row.length - 2) zOpn := zjI _ _ _ (by omega)
   rw [if_neg (by omega),if_pos k2,g2]
   simp only [eg]
   rw [zmA,hp.cols]
   by_cases hc0 : (s.row.getD (s.row.length - 2) zOpn).cols = 0
   ·rw [if_pos hc0,if_pos ⟨k2,hc0⟩,yjF,← ei]
    have hks : (topP s.row).kids = ((topR u.r).f1.size : Int) := ho.kids
    rw [hks]
    exact hd.mod (Nat.le_refl _) (s.row.length - 2) (zhO ((topR u.r).f1.size : Nat)) (colR ((topR u.r).f1.size : Nat)) (fun _ => rfl) fun o y _ hoy => hoy.col _
   rw [if_neg hc0,if_neg (fun e => hc0 e.2)]
   exact hd
  rw [if_neg (fun (e : _ ∧ _) => k2 e.1)]
  by_cases k1 : (topP s.row).kind = 108 ∨ (topP s.row).kind = 116
  ·rw [if_pos k1];exact hd
  rw [if_neg k1,if_neg k2];exact hd
 rw [h.t] at key
 exact key.size (topP s.row).pos.toNat _
theorem zpA (k : Int) {r r' : List Opn} (h : ∀ i : Nat,r'[i]?.map Opn.kind = r[i]?.map Opn.kind) : hasP k r' = hasP k r := by
 have e : r'.map Opn.kind = r.map Opn.kind := List.ext_getElem? fun i => by rw [List.getElem?_map,List.getElem?_map];exact h i
 have g : ∀ l : List Opn,hasP k l = ((l.map Opn.kind).filter (· == k)).length := fun l => by
  unfold hasP
  rw [List.filter_map,List.length_map]
  rfl
 rw [g,g,e]
theorem zxI (k : Int) (r : List Opn) (o : Opn) : hasP k (r ++ [o]) = hasP k r + if o.kind = k then 1 else 0 := by
 unfold hasP
 rw [List.filter_append,List.length_append,List.filter_cons]
 by_cases h : o.kind = k
 ·rw [if_pos (by simpa using h),if_pos h];rfl
 rw [if_neg (by simpa using h),if_neg h];rfl
theorem ygK (k : Int) (r : List Opn) : hasP k r.dropLast ≤ hasP k r := by
 by_cases h : r = []
 ·subst h;exact Nat.le_refl _
 have := zxI k r.dropLast (r.getLast h)
 rw [List.dropLast_concat_getLast h] at this
 omega
structure Steps (n : Nat) (s : Bld) (u : RSt) (x : S47) (e : Int × Int) (q : Int × Int) : Prop where
 form : e.2 = 2 ↔ q.2 = 2
 at_ : q.2 = 2 → e = q
 on : e.2 ≠ 2 → ∃ u',zgN u x = some u' ∧ Rel (n + 2) (zbF s x).1 u'
 deep : q.2 = 5 → e.2 = 5
 inE : e.2 = 0 ∨ e.2 = 2 ∨ e.2 = 4 ∨ e.2 = 5
 inQ : q.2 = 0 ∨ q.2 = 2 ∨ q.2 = 4 ∨ q.2 = 5
 same : hasP 108 s.row ≤ 8 → e.2 = q.2 ∧ (q.2 ≠ 0 → e = q)
 few : hasP 108 s.row ≤ 8 → e.2 ≠ 2 → e.2 ≠ 5 → hasP 108 (zbF s x).1.row ≤ 8
theorem ydZ {n : Nat} {s : Bld} {u : RSt} (h : Rel n s u) (hn : n ≤ 7000000) (x : S47) (o : Bool) (h1 : x.f0 = 1) : ((zdW s x).2.2 = (zeS o u x).2 ∧ ((zeS o u x).2 ≠ 0 → (zdW s x).2 = zeS o u x)) ∧ ((zeS o u x).2 = 0 ∨ (zeS o u x).2 = 4 ∨ ((zeS o u x).2 = 2 ∧ mayP s.row 46 = false)) := by
 unfold zeS zdW
 rw [if_pos h1,h.texts,h.t]
 by_cases hm : mayP s.row 46 = true
 ·rw [if_pos hm,if_pos hm,h.lastP nB [110] inB_n]
  have hka : zbJ [110] (kidP s.row) (kidP s.row).length = zbJ [110] s.row s.row.length := by
   unfold kidP
   rw [List.length_modify,znP [110] kidF (fun _ => rfl)]
  rw [hka]
  cases ha : zbJ [110] s.row s.row.length with
  | none =>
   simp only
   rw [if_neg (show ¬ (0 : Int) < -1 by decide)]
   by_cases h2 : 2000 ≤ s.t.length
   ·rw [if_pos (by omega),if_pos h2]
    exact ⟨⟨rfl,fun _ => rfl⟩,.inr (.inl rfl)⟩
   rw [if_neg (by omega),if_neg h2]
   exact ⟨⟨rfl,fun h => absurd rfl h⟩,.inl rfl⟩
  | some j =>
  have hj := (zqS _ _ _ _ ha).1
  simp only
  have hop := h.op j hj
  have htx : ((kidP s.row).getD j zOpn).text = ((u.r.getD (j + 1) z159).f5.size : Int) := by
   unfold kidP
   rw [zjB,← hop.text]
   split <;> rfl
  rw [htx,if_pos (show (0 : Int) < ((j + 1 : Nat) : Int) by omega),zmA]
  by_cases h2 : 2000 ≤ s.t.length
  ·rw [if_pos (by omega),if_pos h2]
   exact ⟨⟨rfl,fun _ => rfl⟩,.inr (.inl rfl)⟩
  rw [if_neg h2]
  by_cases h3 : 60 < wrap64 (((u.r.getD (j + 1) z159).f5.size : Int) + x.f2.size)
  ·rw [if_pos (.inl h3),if_pos h3]
   exact ⟨⟨rfl,fun _ => rfl⟩,.inr (.inl rfl)⟩
  rw [if_neg (fun e => e.elim h3 (by omega)),if_neg h3]
  exact ⟨⟨rfl,fun h => absurd rfl h⟩,.inl rfl⟩
 rw [if_neg hm,if_neg hm]
 by_cases h2 : zdR x.f2 x.f2.size 0 < x.f2.size
 ·rw [if_pos h2,if_pos h2]
  exact ⟨⟨rfl,fun _ => rfl⟩,.inr (.inr ⟨rfl,Bool.eq_false_iff.mpr hm⟩)⟩
 rw [if_neg h2,if_neg h2]
 exact ⟨⟨rfl,fun h => absurd rfl h⟩,.inl rfl⟩
theorem ybG (s : Bld) (x : S47) (i : Nat) : (zdW s x).1.row[i]?.map Opn.kind = s.row[i]?.map Opn.kind := by
 unfold zdW
 split
 ·split
  ·exact (zgB (kidP s.row) (zgJ x.f2.size) (fun _ => rfl) _ i).trans (ziG s.row i)
  exact ziG s.row i
 split <;> rfl
theorem yeA {u : RSt} {x : S47} (h1 : x.f0 = 1) : zgN u x = if zfQ u.r = true then some ⟨u.t ++ [⟨46,x.f2,x.f3,1⟩],zjH x.f2 (u.r.modify (u.r.length - 1) (kidR dotB))⟩ else some u := by
 unfold zgN
 rw [if_pos h1]
theorem ygL {n : Nat} {s : Bld} {u : RSt} (h : Rel n s u) (hn : n ≤ 7000000) (x : S47) (hx : LexF x) : Steps n s u x (zbF s x).2 (zeS (zeZ u.r x.f1) u x) := by
 obtain ⟨hf,hx0,hx1,hsz,h46⟩ := hx
 rcases hf with h1 | h2 | h3
 ·obtain ⟨⟨c1,c2⟩,c3⟩ := ydZ h hn x (zeZ u.r x.f1) h1
  have es : zbF s x = zdW s x := by unfold zbF;rw [if_pos h1]
  rw [es]
  refine ⟨by rw [c1],fun e => c2 (by omega),fun hne => ?_,fun e => by rw [c1,e],by omega,by omega,fun _ => ⟨c1,c2⟩,fun hh _ _ => ?_⟩
  ·rw [yeA h1,h.texts,es]
   by_cases hm : mayP s.row 46 = true
   ·rw [if_pos hm]
    exact ⟨_,rfl,yjG h hn x hsz hm⟩
   rw [if_neg hm]
   refine ⟨_,rfl,?_⟩
   unfold zdW
   rw [if_neg hm]
   split
   ·exact h.up (by omega)
   exact h.up (by omega)
  rw [es]
  rw [zpA 108 (ybG s x)]
  exact hh
 ·have es : zbF s x = zdQ s x := by unfold zbF;rw [if_neg (by omega),if_pos h2]
  have ho := h.opens x.f1 (h46 h2)
  have hchain := zsA s x h.chain
  rw [es] at hchain ⊢
  have hq : zeS (zeZ u.r x.f1) u x = if mayP s.row x.f1 = true then (if 32 < s.row.length + 1 ∨ (x.f1 = 108 ∧ 8 ≤ hasP 108 s.row) then (x.f3,5) else if 2000 ≤ s.t.length then (x.f3,4) else (0,0)) else (x.f3,2) := by
   unfold zeS
   rw [if_neg (show ¬ x.f0 = 1 by omega),if_pos h2,ho,h.len,h.many,h.t]
  rw [hq]
  by_cases hm : mayP s.row x.f1 = true
  ·have hrel := yjH h hn x hx0 hx1 (h46 h2) hm hchain
   have hr : zgN u x = some ⟨u.t ++ [⟨x.f1,⟨#[]⟩,x.f3,1⟩],zgF x.f1 (u.r.modify (u.r.length - 1) (kidR (zdC x.f1))) ++ [⟨x.f1,⟨#[]⟩,u.t.length,0,0,⟨#[]⟩⟩]⟩ := by
    unfold zgN
    rw [if_neg (show ¬ x.f0 = 1 by omega),if_pos h2]
   have hhas : hasP 108 (kidP (zcY s.row x.f1) ++ [⟨x.f1,s.t.length,0,0,false,0,0⟩]) = hasP 108 s.row + if x.f1 = 108 then 1 else 0 := by
    rw [zxI,zpA 108 fun i => (ziG _ i).trans (zrZ s.row x.f1 i)]
   have hop : zdQ s x = (⟨kidP (zcY s.row x.f1) ++ [⟨x.f1,s.t.length,0,0,false,0,0⟩],s.t ++ [⟨x.f1,⟨#[]⟩,x.f3,1⟩]⟩,x.f3,if 32 < s.row.length + 1 ∨ 8 < hasP 108 s.row + (if x.f1 = 108 then 1 else 0) then 5 else if 2000 < s.t.length + 1 then 4 else 0) := by
    unfold zdQ
    rw [if_pos hm,hhas]
   have hrow : (zdQ s x).1.row = kidP (zcY s.row x.f1) ++ [⟨x.f1,s.t.length,0,0,false,0,0⟩] := by rw [hop]
   have hcode : (zdQ s x).2 = (x.f3,if 32 < s.row.length + 1 ∨ 8 < hasP 108 s.row + (if x.f1 = 108 then 1 else 0) then 5 else if 2000 < s.t.length + 1 then 4 else 0) := by rw [hop]
   rw [if_pos hm,hcode]
   have h12 : (if x.f1 = 108 then 1 else 0) ≤ 1 ∧ (x.f1 = 108 → (if x.f1 = 108 then 1 else 0) = 1) ∧ (¬ x.f1 = 108 → (if x.f1 = 108 then 1 else 0) = 0) := by
    by_cases e : x.f1 = 108
    ·rw [if_pos e];exact ⟨by omega,fun _ => rfl,fun h => absurd e h⟩
    rw [if_neg e];exact ⟨by omega,fun h => absurd h e,fun _ => rfl⟩
   generalize hI : (if x.f1 = 108 then 1 else 0) = I at *
   obtain ⟨i1,i2,i3⟩ := h12
   by_cases hd : 32 < s.row.length + 1 ∨ (x.f1 = 108 ∧ 8 ≤ hasP 108 s.row)
   ·have hd' : 32 < s.row.length + 1 ∨ 8 < hasP 108 s.row + I := by
     rcases hd with a | ⟨a,b⟩
     ·exact .inl a
     have := i2 a;exact .inr (by omega)
    rw [if_pos hd,if_pos hd']
    refine ⟨Iff.rfl,fun _ => rfl,fun _ => ⟨_,hr,by rw [es];exact hrel⟩,fun _ => rfl,.inr (.inr (.inr rfl)),.inr (.inr (.inr rfl)),fun _ => ⟨rfl,fun _ => rfl⟩,fun _ _ e => absurd rfl e⟩
   rw [if_neg hd]
   have hq2 : ∀ z : Int × Int,z = (if 2000 ≤ s.t.length then (x.f3,4) else (0,0)) → z.2 = 0 ∨ z.2 = 4 := by
    rintro z rfl
    split
    ·exact .inr rfl
    exact .inl rfl
   have hz := hq2 _ rfl
   by_cases hd' : 32 < s.row.length + 1 ∨ 8 < hasP 108 s.row + I
   ·rw [if_pos hd']
    refine ⟨⟨fun e => (by cases e),fun e => (by omega)⟩,fun e => (by omega),fun _ => ⟨_,hr,by rw [es];exact hrel⟩,fun e => rfl,.inr (.inr (.inr rfl)),by omega,fun hh => ?_,fun _ _ e => absurd rfl e⟩
    exfalso
    rcases hd' with a | a
    ·exact hd (.inl a)
    by_cases e : x.f1 = 108
    ·exact hd (.inr ⟨e,by have := i2 e;omega⟩)
    have := i3 e;omega
   rw [if_neg hd']
   by_cases hb : 2000 ≤ s.t.length
   ·rw [if_pos hb,if_pos (by omega)]
    refine ⟨Iff.rfl,fun _ => rfl,fun _ => ⟨_,hr,by rw [es];exact hrel⟩,fun e => (by cases e),.inr (.inr (.inl rfl)),.inr (.inr (.inl rfl)),fun _ => ⟨rfl,fun _ => rfl⟩,fun hh _ _ => ?_⟩
    rw [es,hrow,hhas];omega
   rw [if_neg hb,if_neg (by omega)]
   refine ⟨Iff.rfl,fun e => (by cases e),fun _ => ⟨_,hr,by rw [es];exact hrel⟩,fun e => (by cases e),.inl rfl,.inl rfl,fun _ => ⟨rfl,fun e => absurd rfl e⟩,fun hh _ _ => ?_⟩
   rw [es,hrow,hhas];omega
  have hop : zdQ s x = (s,x.f3,2) := by
   unfold zdQ
   rw [if_neg hm]
  rw [if_neg hm,hop]
  exact ⟨Iff.rfl,fun _ => rfl,fun e => absurd rfl e,fun e => (by cases e),.inr (.inl rfl),.inr (.inl rfl),fun _ => ⟨rfl,fun _ => rfl⟩,fun _ e _ => absurd rfl e⟩
 have es : zbF s x = zdX s x := by unfold zbF;rw [if_neg (by omega),if_neg (by omega)]
 have hc := ygJ h x (zeZ u.r x.f1) h3
 have hs := ygI s x
 rw [es,hs,hc]
 by_cases hw : zuW s = true
 ·rw [if_pos hw,if_pos hw]
  have h0 : (zdX s x).2.2 = 0 := by rw [hs,if_pos hw]
  obtain ⟨a1,a2,a3,a4⟩ := yjI h x h0
  have hr : zgN u x = some ⟨u.t.modify (topR u.r).f2.toNat (zlN (u.t.length - (topR u.r).f2)),(zhA u.r).dropLast⟩ := by
   unfold zgN
   rw [if_neg (by omega),if_neg (by omega),if_pos ⟨a1,a2,a3⟩]
  refine ⟨Iff.rfl,fun e => (by cases e),fun _ => ⟨_,hr,by rw [es];exact a4.up (by omega)⟩,fun e => (by cases e),.inl rfl,.inl rfl,fun _ => ⟨rfl,fun e => absurd rfl e⟩,fun hh _ _ => ?_⟩
  rw [es]
  unfold zdX
  by_cases hr : s.row = []
  ·rw [if_pos hr];exact hh
  rw [if_neg hr]
  show hasP 108 (zcW s.row.dropLast (topP s.row)).1 ≤ 8
  rw [zpA 108 (zpQ _ _)]
  exact Nat.le_trans (ygK _ _) hh
 rw [if_neg hw,if_neg hw]
 exact ⟨Iff.rfl,fun _ => rfl,fun e => absurd rfl e,fun e => (by cases e),.inr (.inl rfl),.inr (.inl rfl),fun _ => ⟨rfl,fun _ => rfl⟩,fun _ e _ => absurd rfl e⟩
theorem rel0 : Rel 0 bld0 zkW := ⟨rfl,rfl,rfl,fun i hi => by simp [bld0] at hi,by intro i hi;simp [bld0] at hi⟩
end Go.Proofs.Ythcmfjpheanphaa.Pr
