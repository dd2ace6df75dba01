/- Texts of this seat, one behind the other. -/
import Derived.Test.YthcmfjpheanphaaXNormWhite1
import Derived.Test.YthcmfjpheanphaaXNormWhite2
import Derived.Test.YthcmfjpheanphaaXNormWhite3
import Derived.Test.YthcmfjpheanphaaXNormWhite4
import Derived.Test.YthcmfjpheanphaaXNormWhite5
import Derived.Test.YthcmfjpheanphaaXNormWhite6
import Derived.Test.YthcmfjpheanphaaXNormWhite7
import Derived.Test.YthcmfjpheanphaaXNormWhite8
import Derived.Test.YthcmfjpheanphaaXNormWhite9
import Derived.Test.YthcmfjpheanphaaXNormWhite10
set_option linter.unusedVariables false
set_option linter.unusedSimpArgs false
namespace Go.Proofs.Ythcmfjpheanphaa.Pr
open Go.RowKit Go.Maps Go.Proofs.YthcmfjpheanphaaW.PrintWords
attribute [local go_sem] Oper.semAt_some
theorem Rint_flat {w : World} {base e : Nat} {v : Value} {xs : List Int} (h : Kd.R (Kd.int .i64) e w base (fun _ => True) v xs) : w.ownsRow base e 1 v xs.length (nums .i64 xs) := by
 obtain ⟨_, inner, ho, hl, hr⟩ := h
 have hl' : inner.length = xs.length := by rw [hl]; exact Nat.mul_one _
 have : inner = nums .i64 xs := by
  refine List.ext_getElem? fun j => ?_
  unfold nums
  rw [List.getElem?_map]
  cases hx : xs[j]? with
  | none => rw [List.getElem?_eq_none_iff] at hx; rw [List.getElem?_eq_none (by omega)]; rfl
  | some p =>
   have h1 : (inner.drop (j * 1)).take 1 = [.int .i64 p] := hr j p hx
   rw [Nat.mul_one] at h1
   have := congrArg (fun l : List Value => l[0]?) h1
   simp only [List.getElem?_take, List.getElem?_drop] at this
   simpa using this
 subst this
 exact ho
theorem blank_calls (c a : Int) (w : World) : Calls Try.prog 146 #[.agg #[.int .u8 c, .int .i64 a]] w fun e w' => e = .returned (.bool (c == 0 || c == 32)) ∧ Below w.heap.size w w' := by
 have hb : Below w.heap.size w (w.alloc (.cells #[.int .u8 c, .int .i64 a] 175)) := (Below.refl _ w).alloc (Nat.le_refl _) _
 have HB := Lib.hid hb
 clear hb
 cases h1 : (c == 0)
 ·go_enter Try.func146, Try.ntmps146
  go_wp2
  go_ret
  exact ⟨rfl, HB.out⟩
 ·go_enter Try.func146, Try.ntmps146
  go_wp2
  go_ret
  exact ⟨rfl, HB.out⟩
structure TAt (W : World) (B0 b3 : Nat) (vo : Value) (out : List S56) (F : Int → Option (Int × Int)) (P : Int → Option Nat) : Prop where
 x3 : W.heap[b3]? = some (.cells #[vo] 50 (0, 0))
 out : W.ownsRow B0 56 4 vo out.length (flat56 out)
 fl : ∀ j b, P j = some b → ∃ c a, F j = some (c, a) ∧ W.heap[b]? = some (.cells #[.int .u8 c, .int .i64 a] 177 (0, 0))
theorem TAt.fr {X : Nat → Prop} {W W' : World} {B0 b3 : Nat} {vo : Value} {out : List S56} {F : Int → Option (Int × Int)} {P : Int → Option Nat} (h : TAt W B0 b3 vo out F P) (hf : Fr X W W') (hx : ∀ (g : Nat) (cs : Array Value) (t : TypeId), W.heap[g]? = some (.cells cs t (0, 0)) → ¬ X g) : TAt W' B0 b3 vo out F P := by
 refine ⟨hf.keep h.x3 (hx _ _ _ h.x3), hf.own h.out fun g hg => ?_, fun j b hb => ?_⟩
 ·obtain ⟨cs, hcs⟩ := own_typed h.out g hg
  exact hx _ _ _ hcs
 ·obtain ⟨c, a, h1, h2⟩ := h.fl j b hb
  exact ⟨c, a, h1, hf.keep h2 (hx _ _ _ h2)⟩
theorem TAt.trim {W : World} {B0 b3 go co N ia : Nat} {out : List S56} {F : Int → Option (Int × Int)} {P : Int → Option Nat} {u : ByteArray} (h : TAt W B0 b3 (.slice (some ⟨go, 0, none⟩) N co) out F P) (hN : out.length = N) (hi : ia < N) :
  TAt (W.setCell ⟨go, ia * 4 + 1, none⟩ (.string u)) B0 b3 (.slice (some ⟨go, 0, none⟩) N co) (out.modify ia (tx u)) F P ∧ Below B0 W (W.setCell ⟨go, ia * 4 + 1, none⟩ (.string u)) ∧ W.grownBy (W.setCell ⟨go, ia * 4 + 1, none⟩ (.string u)) (some go) := by
 subst hN
 obtain ⟨cs, hcs⟩ := own_typed h.out go rfl
 have hb0 := own_base h.out go rfl
 have far : ∀ {g : Nat} {cs' : Array Value} {t : TypeId}, W.heap[g]? = some (.cells cs' t (0, 0)) → t ≠ 56 → (W.setCell ⟨go, ia * 4 + 1, none⟩ (.string u)).heap[g]? = some (.cells cs' t (0, 0)) := fun hgb hne => blk_far hgb (p := ⟨go, ia * 4 + 1, none⟩) (blk_ne hgb hcs hne) _
 have ho := (h.out.stored (ia * 4 + 1) (.string u))
 have ho1 := ho.1
 rw [flatN_mod (tx u) 1 (by omega) (.string u) out ia hi rfl] at ho1
 refine ⟨⟨far h.x3 (by decide), ?_, fun j b hb => ?_⟩, (Below.refl B0 W).setCell hb0 _, ho.2⟩
 ·rw [List.length_modify]
  exact ho1
 ·obtain ⟨c, a, h1, h2⟩ := h.fl j b hb
  exact ⟨c, a, h1, far h2 (by decide)⟩
theorem sameKey_lit (j x : Int) : (kLit j).sameKey (kLit x) = decide (j = x) := by
 unfold kLit Lit.sameKey
 simp
theorem own_low {W : World} {B B' e z n : Nat} {v : Value} {xs : List Value} (h : W.ownsRow B e z v n xs) (hb : B' ≤ B) : W.ownsRow B' e z v n xs := by
 rcases h with ⟨h1, h2 | ⟨g, cap, cur, h2, h3, h4⟩⟩
 ·exact ⟨h1, .inl h2⟩
 ·exact ⟨h1, .inr ⟨g, cap, cur, h2, Nat.le_trans hb h3, h4⟩⟩
theorem sq_start {w w2 w5 : World} {t : List S56} {A0 Ao : Option Addr} {c0 co : Nat} {vin : Value} {O : List Int} (hx1 : w2.heap[w.heap.size]? = some (.cells #[.slice A0 t.length c0] 50 (0, 0))) (hb2 : Below w.heap.size w w2)
  (ho : w2.ownsRow w.heap.size 56 4 (.slice Ao t.length co) t.length (flat56 t)) (hb5 : Below ((w2.alloc (.cells #[.slice Ao t.length co] 50)).alloc (.map #[] 0)).heap.size ((w2.alloc (.cells #[.slice Ao t.length co] 50)).alloc (.map #[] 0)) w5)
  (hin : Kd.R (Kd.int .i64) 3 w5 ((w2.alloc (.cells #[.slice Ao t.length co] 50)).alloc (.map #[] 0)).heap.size (fun _ => True) vin O) :
  SAt w5 w.heap.size w.heap.size w2.heap.size (w2.heap.size + 1) 0 A0 t.length c0 vin O (.slice Ao t.length co) (sq0 t) (fun _ => none) ∧ Below w.heap.size w w5 := by
 have hs2 := hb2.size
 have hB3 : Below w.heap.size w (w2.alloc (.cells #[.slice Ao t.length co] 50)) := hb2.alloc hs2 _
 have hB4 : Below w.heap.size w ((w2.alloc (.cells #[.slice Ao t.length co] 50)).alloc (.map #[] 0)) := hB3.alloc hB3.size _
 have hB5 : Below w.heap.size w w5 := hB4.trans (hb5.mono hB4.size)
 have hmade := World.ownsMap_made (w2.alloc (.cells #[.slice Ao t.length co] 50)) Try.prog 3 elemP
 rw [World.size_alloc] at hmade
 refine ⟨⟨blk_below (blk_alloc (blk_alloc hx1 _) _) hb5, blk_below (blk_alloc (blk_new w2 _) _) hb5, own_low (Rint_flat hin) hB4.size, pw_own_below (own_alloc (own_alloc ho _) _) hb5, ?_, by omega, by omega⟩, hB5⟩
 refine FAt.below (W := (w2.alloc (.cells #[.slice Ao t.length co] 50)).alloc (.map #[] 0)) ⟨⟨_, hmade, fun j => ?_, fun j h => (by cases h)⟩, fun _ _ => rfl, fun j b h => (by cases h), fun j j' b h => (by cases h), fun j b h => (by cases h)⟩ hb5
 rfl
def RnAt (W : World) (B0 b1 b3 bm : Nat) (A0 : Option Addr) (n c0 : Nat) (vin : Value) (O : List Int) (vo : Value) (s : SqS) (i g6 g7 : Nat) (j : Int) : Prop :=
 ∃ (m : Nat) (P : Int → Option Nat) (F : Int → Option (Int × Int)) (gf : Nat) (c a : Int), SAt W B0 b1 b3 bm m A0 n c0 vin O vo ⟨s.out, F⟩ P ∧ W.heap[g6]? = some (.cells #[.int .i64 (i : Int)] 3 (0, 0)) ∧ W.heap[g7]? = some (.cells #[.pointer (some ⟨gf, 0, none⟩)] 173 (0, 0)) ∧
  P j = some gf ∧ F j = some (c, a) ∧ (s.F j).getD (0, 0) = (c, a) ∧ (∀ v, upF F j v = upF s.F j v) ∧ m ≤ i + 1
theorem upF_twice {α : Type} (F : Int → Option α) (j : Int) (u v : α) : upF (upF F j u) j v = upF F j v := by
 funext k
 unfold upF
 by_cases e : k = j
 ·rw [if_pos e, if_pos e]
 ·rw [if_neg e, if_neg e, if_neg e]
theorem rd_mem (O : List Int) (i : Nat) (h : i < O.length) : rd O i ∈ O := by
 unfold rd
 rw [Int.toNat_natCast, List.getD_eq_getElem?_getD, List.getElem?_eq_getElem h]
 exact List.getElem_mem h
theorem RnAt.there {W : World} {B0 b1 b3 bm m : Nat} {A0 : Option Addr} {n c0 : Nat} {vin : Value} {O : List Int} {vo : Value} {s : SqS} {P : Int → Option Nat} {i g6 g7 gf : Nat} {j : Int} (h : SAt W B0 b1 b3 bm m A0 n c0 vin O vo s P)
  (h6 : W.heap[g6]? = some (.cells #[.int .i64 (i : Int)] 3 (0, 0))) (h7 : W.heap[g7]? = some (.cells #[.pointer (some ⟨gf, 0, none⟩)] 173 (0, 0))) (hj : P j = some gf) (hm : m ≤ i) : RnAt W B0 b1 b3 bm A0 n c0 vin O vo s i g6 g7 j := by
 obtain ⟨c, a, h1, h2⟩ := h.fl.flow j gf hj
 exact ⟨m, P, s.F, gf, c, a, h, h6, h7, hj, h1, by rw [h1]; rfl, fun _ => rfl, by omega⟩
theorem RnAt.made {W4 W5 W6 : World} {B0 b1 b3 bm m : Nat} {A0 : Option Addr} {n c0 : Nat} {vin : Value} {O : List Int} {vo : Value} {s : SqS} {P : Int → Option Nat} {i g6 g7 gf : Nat} {j : Int} {D : DataW Unit} (h : SAt W5 B0 b1 b3 bm m A0 n c0 vin O vo s P)
  (h6 : W5.heap[g6]? = some (.cells #[.int .i64 (i : Int)] 3 (0, 0))) (h7 : W5.heap[g7]? = some (.cells #[.pointer (some ⟨gf, 0, none⟩)] 173 (0, 0))) (hg : W5.heap[gf]? = some (.cells #[.int .u8 0, .int .i64 0] 177 (0, 0)))
  (hnew : ∀ k b, P k = some b → b ≠ gf) (hlo : B0 ≤ gf) (hj : P j = none) (hm : m ≤ i) (hD : W5.ownsMap Try.prog 3 elemP bm m D) (hat : ∀ j, D.atKey (kLit j) (codeP none) = codeP (P j)) (hhas : ∀ j, Maps.has D (kLit j) = true → P j ≠ none)
  (ho : W6.ownsMap Try.prog 3 elemP bm (m + 1) (D.put (kLit j) (codeP (some gf)))) (hgr : W5.grownBy W6 (some bm)) : RnAt W6 B0 b1 b3 bm A0 n c0 vin O vo s i g6 g7 j := by
 have hF : Fr (fun k => k = bm) W5 W6 := Fr.grown hgr fun r hr => (by cases hr; rfl)
 obtain ⟨es, clock, hmo⟩ := own_map_obj hD
 have hne : ∀ {g : Nat} {cs : Array Value} {t : TypeId}, W5.heap[g]? = some (.cells cs t (0, 0)) → ¬ g = bm := fun hgb e => by
  rw [e, hmo] at hgb
  cases hgb
 have hnb : ∀ {B e z n : Nat} {v : Value} {xs : List Value}, W5.ownsRow B e z v n xs → ∀ g, v.ownBlock = some g → ¬ g = bm := fun ho' g hg' => by
  obtain ⟨cs, hcs⟩ := own_typed ho' g hg'
  exact hne hcs
 refine ⟨m + 1, upF P j gf, upF s.F j (0, 0), gf, 0, 0, ⟨hF.keep h.x1 (hne h.x1), hF.keep h.x3 (hne h.x3), hF.own h.own (hnb h.own), hF.own h.out (hnb h.out), h.fl.more hj hD hat hhas ho hF hnew hlo (hF.keep hg (hne hg)), h.l3, h.lm⟩,
  hF.keep h6 (hne h6), hF.keep h7 (hne h7), by unfold upF; rw [if_pos rfl], by unfold upF; rw [if_pos rfl], by rw [h.fl.none_ j hj]; rfl, fun v => upF_twice _ _ _ _, by omega⟩
theorem outL_len (t : List S56) (i : Nat) (out : List S56) (L : List (Nat × Int)) : (outLn t i out L).length = out.length := by
 cases L with
 | nil => rfl
 | cons x L => simp [outLn]
theorem keepOut_push (t : List S56) (i k : Nat) (out : List S56) (L : List (Nat × Int)) (ch : Int) : keepOut t i k (byL L) (outLn t i out L) = outLn t i out (L ++ [(k, ch)]) := by
 unfold keepOut byL
 cases L with
 | nil => rfl
 | cons x L => rfl
theorem sayL_push (c : Int) (L : List (Nat × Int)) (k : Nat) (ch : Int) : sayL c (L ++ [(k, ch)]) = ch := by
 unfold sayL
 rw [List.getLast?_append]
 rfl
theorem atL_push (a : Int) (i : Nat) (L : List (Nat × Int)) (k : Nat) (ch : Int) : atL a i (L ++ [(k, ch)]) = i := by
 unfold atL
 rw [if_neg (by simp)]
theorem byL_push (L : List (Nat × Int)) (k : Nat) (ch : Int) : byL (L ++ [(k, ch)]) = byL L ++ [ch] := by simp [byL]
theorem kpB_on (s : ByteArray) (k : Nat) (c : Int) (h : k < s.size) : kpB s (s.size - k) k c = if whiteP (bt s k) = true then (if c = 0 ∨ c = 32 then kpB s (s.size - (k + 1)) (k + 1) c else (k, 32) :: kpB s (s.size - (k + 1)) (k + 1) 32) else (k, bt s k) :: kpB s (s.size - (k + 1)) (k + 1) (bt s k) := by
 rw [show s.size - k = (s.size - (k + 1)) + 1 from by omega, kpB, if_pos h]
theorem xk_new {W : World} {B0 Bb g1 g3 g6 g7 g8 gf : Nat} {A0 : Option Addr} {n c0 i : Nat} {vo vb : Value} {out : List S56} {b : List Int} {sc sa : Int} (h : KAt W B0 Bb g1 g3 g6 g7 g8 gf A0 n c0 i vo vb out b sc sa) (h8 : B0 ≤ g8) (hf : B0 ≤ gf) (hb : B0 ≤ Bb) : ∀ k, k < B0 → ¬ XK Bb g8 gf vo k := by
 rintro k hk (h1 | h1 | h1 | h1)
 ·have := own_base h.out k h1
  omega
 ·omega
 ·omega
 ·omega
theorem sq_next {W6 W8 wx : World} {B0 Bb b1 b3 bm m g6 g7 g8 gf : Nat} {A0 : Option Addr} {n c0 i go co N : Nat} {vin vb : Value} {O : List Int} {out outX : List S56} {F : Int → Option (Int × Int)} {P : Int → Option Nat} {j sc sa : Int} {b : List Int} {u : ByteArray}
  (hS : SAt W6 B0 b1 b3 bm m A0 n c0 vin O (.slice (some ⟨go, 0, none⟩) N co) ⟨out, F⟩ P) (hb8 : Below W6.heap.size W6 W8) (hBb : Bb = W8.heap.size) (hg8 : g8 = W6.heap.size)
  (hK : KAt wx B0 Bb b1 b3 g6 g7 g8 gf A0 n c0 i (.slice (some ⟨go, 0, none⟩) N co) vb outX b sc sa) (hf : Fr (XK Bb g8 gf (.slice (some ⟨go, 0, none⟩) N co)) W8 wx) (hj : P j = some gf) (hi : i < outX.length) (hN : outX.length = N) (hB0 : B0 ≤ W6.heap.size) :
  SAt (wx.setCell ⟨go, i * 4 + 1, none⟩ (.string u)) B0 b1 b3 bm m A0 n c0 vin O (.slice (some ⟨go, 0, none⟩) N co) ⟨outX.modify i (tx u), upF F j (sc, sa)⟩ P ∧ Below B0 W6 (wx.setCell ⟨go, i * 4 + 1, none⟩ (.string u)) := by
 subst hN
 obtain ⟨cs, hcs⟩ := own_typed hK.out go rfl
 have hS8 := hS.below hb8
 have hset : Fr (XK Bb g8 gf (.slice (some ⟨go, 0, none⟩) outX.length co)) W8 (wx.setCell ⟨go, i * 4 + 1, none⟩ (.string u)) := Fr.trans hf (Fr.set (p := ⟨go, i * 4 + 1, none⟩) (.inl rfl) _)
 have far : ∀ {g : Nat} {cs' : Array Value} {t : TypeId}, wx.heap[g]? = some (.cells cs' t (0, 0)) → t ≠ 56 → (wx.setCell ⟨go, i * 4 + 1, none⟩ (.string u)).heap[g]? = some (.cells cs' t (0, 0)) := fun hgb hne => blk_far hgb (p := ⟨go, i * 4 + 1, none⟩) (blk_ne hgb hcs hne) _
 have hlt6 : ∀ {g : Nat} {o : Obj}, W6.heap[g]? = some o → g < W6.heap.size := fun h => blk_lt h
 have hs8 := hb8.size
 obtain ⟨co', hcf, hgf0, hgf⟩ := hS.fl.flow j gf hj
 have hgfl := blk_lt hgf
 have hgol := (hS.out.lt go rfl).2
 obtain ⟨cs6, hcs6⟩ := own_typed hS.out go rfl
 have ho := (hK.out.stored (i * 4 + 1) (.string u)).1
 rw [flatN_mod (tx u) 1 (by omega) (.string u) outX i hi rfl] at ho
 have hnx : ∀ {g : Nat}, g < W6.heap.size → g ≠ gf → g ≠ go → ¬ XK Bb g8 gf (.slice (some ⟨go, 0, none⟩) outX.length co) g := by
  rintro g hg h1 h2 (h | h | h | h)
  ·simp only [Value.ownBlock, Option.some.injEq] at h
   exact h2 h.symm
  ·omega
  ·exact h1 h
  ·omega
 obtain ⟨D, hD, hat, _⟩ := hS.fl.map
 obtain ⟨es, clock, hmo⟩ := own_map_obj hD
 have hmgf : bm ≠ gf := fun e => by rw [e, hgf] at hmo; cases hmo
 have hmgo : bm ≠ go := fun e => by rw [e, hcs6] at hmo; cases hmo
 refine ⟨⟨far hK.x1 (by decide), far hK.x3 (by decide), ?_, ?_, ?_, hS.l3, hS.lm⟩, ?_⟩
 ·refine Fr.own hset hS8.own fun g hg => hnx (hS.own.lt g hg).2 (fun e => ?_) (fun e => ?_)
  ·obtain ⟨c1, h1⟩ := own_typed hS.own g hg
   rw [e, hgf] at h1
   cases h1
  ·obtain ⟨c1, h1⟩ := own_typed hS.own g hg
   rw [e, hcs6] at h1
   cases h1
 ·rw [List.length_modify]
  exact ho
 ·refine hS8.fl.turn hset hj (hnx (blk_lt hmo) hmgf hmgo) (fun k b' hk hne => ?_) (far hK.xf (by decide))
  obtain ⟨c1, a1, _, hb'⟩ := hS.fl.flow k b' hk
  exact hnx (blk_lt hb') hne fun e => by rw [e, hcs6] at hb'; cases hb'
 ·refine (hb8.mono hB0).trans ?_
  refine hset.toBelow (by omega) fun k hk => ?_
  refine xk_new hK ?_ ?_ ?_ k hk
  ·omega
  ·exact hS.fl.lo j gf hj
  ·omega
theorem sqRun_step (O : List Int) (t : List S56) (n i : Nat) (s : SqS) (h : i < n) : sqRun O t (n - i) i s = sqRun O t (n - (i + 1)) (i + 1) (sqNode O t i s) := by
 rw [show n - i = (n - (i + 1)) + 1 from by omega]
 rfl
set_option pp.maxSteps 3000 in
set_option maxRecDepth 100000 in
set_option maxHeartbeats 8000000 in
theorem squeezed_walk (k : Nat) (A0 : Option Addr) (c0 : Nat) (t : List S56) (O : List Int) (w : World) (hA : Kd.C k56 w A0 t.length t) (hc0 : t.length ≤ c0) (hn6 : t.length ≤ 400000) (hO : norm_owners.f k t = some O) (hOl : O.length = t.length) (hOw : ∀ j ∈ O, (Lit.int .i64 j).wf = true)
  (hts : ∀ x ∈ t, x.f1.size ≤ 1000000) :
  Calls Try.prog 111 #[.slice A0 t.length c0] w fun e w' => ∃ v0_ : Value, e = .returned v0_ ∧ Kd.R k56 56 w' w.heap.size (fun _ => True) v0_ (squeezeP O t) ∧ Below w.heap.size w w' := by
 have hmm := @run_makeMap Try.prog
 obtain ⟨i0, hi0, hz0, hz1, hz2⟩ := info_parts info56
 have hown := norm_owners.calls k A0 c0 t O
 have HW := Lib.hid (And.intro hA (And.intro hc0 (And.intro hO hown)))
 clear hA hO hown
 go_enter Try.func111, Try.ntmps111
 go_wp2_with (at_builtin; go_loud (refine Kd.R_append_rows k56 (w0 := w) w.heap.size rfl (.tmp 14) (.tmp 15) 50 56 (.agg #[(.int .u8 0), (.string ⟨#[]⟩), (.int .i64 0), (.int .i64 0)]) 40 rfl Try.underlying50 info56 rfl (by decide) (by omega) (.slice (some ⟨w.heap.size + 1, 0, none⟩) 0 0) ([] : List S56) t _ _ _ (fun _ => True) (fun _ => False) rfl rfl ?aO ?aR (fun _ _ h => h) (fun _ h => h.elim) ?aF ?aB ?aS ?aL ?_))
 case aR => exact Kd.C_alloc (Kd.C_alloc HW.out.1 _) _
 case aB => exact ((Below.refl _ w).alloc (Nat.le_refl _) _).alloc (by simp) _
 case aF => exact fun _ _ => trivial
 case aO =>
  have h0 := own_empty56 (w.alloc (.cells #[.slice A0 t.length c0] 50))
  rw [World.size_alloc] at h0
  exact own_R56 (xs := []) h0 _ (by simp)
 case aS => simp; omega
 case aL => simp; omega
 intro vo w2 ho hb hg hat
 have ho' := R56_flat ho
 obtain ⟨Ao, co, rfl⟩ := own_slice ho'
 have HB2 := Lib.hid hb
 have HO2 := Lib.hid ho'
 have hx1 : w2.heap[w.heap.size]? = some (.cells #[.slice A0 t.length c0] 50 (0, 0)) := blk_grown (blk_alloc (blk_new w _) _) hg (by simp [Value.ownBlock])
 have HX1 := Lib.hid hx1
 have x1 := blk_cell hx1 0
 have x1b := blk_cell (blk_alloc (blk_alloc HX1.out (.cells #[.slice Ao t.length co] 50)) (.map #[] 0)) 0
 simp only [List.getElem?_toArray, List.getElem?_cons_succ, List.getElem?_cons_zero] at x1 x1b
 clear ho ho' hb hg hat hx1
 go_wp2_with (go_at_call 144; refine (HW.out.2.2.2 _ (Kd.C_below HW.out.1 (((HB2.out.alloc HB2.out.size _).alloc (by have := HB2.out.size; simp; omega) _))) HW.out.2.1 HW.out.2.2.1).mono ?_; rintro e w5 ⟨vin, rfl, hin, hb5⟩; have x1' := blk_cell (blk_below (blk_alloc (blk_alloc HX1.out (.cells #[.slice Ao t.length co] 50)) (.map #[] 0)) hb5) 0; simp only [List.getElem?_toArray, List.getElem?_cons_succ, List.getElem?_cons_zero] at x1')
 have hst := sq_start HX1.out HB2.out HO2.out hb5 hin
 obtain ⟨Ain, cin, rfl⟩ := own_slice hst.1.own
 rw [hOl] at hst ⊢
 have HS := Lib.hid hst
 clear hst hb5 hin x1 x1b x1' HX1 HB2 HO2
 go_loopw [22] (fun v wr => ∃ (i m : Nat) (vo : Value) (s : SqS) (P : Int → Option Nat), i ≤ t.length ∧ v = .int .i64 i ∧ SAt wr w.heap.size w.heap.size w2.heap.size (w2.heap.size + 1) m A0 t.length c0 (.slice Ain t.length cin) O vo s P ∧ Below w.heap.size w wr ∧ sqRun O t t.length 0 (sq0 t) = sqRun O t (t.length - i) i s ∧ s.out.length = t.length ∧ m ≤ i) (fun v _ => t.length - (intOf v).toNat)
 case atStart => exact ⟨0, 0, _, _, _, Nat.zero_le _, rfl, HS.out.1, HS.out.2, rfl, rfl, Nat.le_refl _⟩
 case round =>
  obtain ⟨wq, rfl⟩ : ∃ wq, wq = wr := ⟨wr, rfl⟩
  obtain ⟨i, m, vo, s, P, hi, rfl, hS, hB, hrun, hlen, hm⟩ := hrel
  have HSS := Lib.hid hS
  have HBB := Lib.hid hB
  have HRUN := Lib.hid hrun
  have x1 := blk_cell hS.x1 0
  simp only [List.getElem?_toArray, List.getElem?_cons_succ, List.getElem?_cons_zero] at x1
  clear hS hB hrun
  by_cases hlt : i < t.length
  ·have hlt1 : (i : Int) < (t.length : Int) := by omega
   have HB3 := Lib.hid (HBB.out.alloc HBB.out.size (.cells #[.int .i64 (i : Int)] 3))
   have HS3 := Lib.hid (HSS.out.below ((Below.refl _ wq).alloc (Nat.le_refl _) (.cells #[.int .i64 (i : Int)] 3)))
   have hA' := Kd.C_below HW.out.1 HB3.out
   have x1a := blk_cell HS3.out.x1 0
   simp only [List.getElem?_toArray, List.getElem?_cons_succ, List.getElem?_cons_zero] at x1a
   obtain ⟨ad, rfl, q0, q1, q2, q3⟩ := at_T56 hA' (i : Int) (by omega) hlt1
   simp only [Int.toNat_natCast] at q0 q1 q2 q3
   clear hA'
   by_cases h46 : (rd_T56 t i).f0 = 46
   ·have hwfj := hOw _ (rd_mem O i (by omega))
    have hown3 := HS3.out.own
    rw [hOl] at hown3
    obtain ⟨adi, rfl, qi⟩ := (own_reads' hown3).at_ (i : Int) (by omega) (by omega)
    clear hown3
    simp only [Int.toNat_natCast] at qi
    obtain ⟨j, hj⟩ : ∃ j, rd O (i : Int) = j := ⟨_, rfl⟩
    rw [hj] at hwfj qi
    rcases hP : P j with _ | gf
    case' none =>
     go_upto_region 12 with (at_lookup; refine wpList_lookup_ptr _ rfl _ _ rfl _ _ m s.F P rfl HS3.out.fl j rfl hwfj ?_; rw [hP]; simp only [ptrP, Option.map_none])
     obtain ⟨W4, hW4⟩ : ∃ W4, ((wq.alloc (.cells #[.int .i64 (i : Int)] 3)).alloc (.cells #[.pointer (some ⟨wq.heap.size + 1 + 1, 0, none⟩)] 173)).alloc (.cells #[.int .u8 0, .int .i64 0] 177) = W4 := ⟨_, rfl⟩
     have hF4 : Below (wq.alloc (.cells #[.int .i64 (i : Int)] 3)).heap.size (wq.alloc (.cells #[.int .i64 (i : Int)] 3)) W4 := by
      rw [← hW4]
      exact ((Below.refl _ _).alloc (Nat.le_refl _) _).alloc (by simp) _
     have hg7 : W4.heap[wq.heap.size + 1]? = some (.cells #[.pointer (some ⟨wq.heap.size + 1 + 1, 0, none⟩)] 173 (0, 0)) := by
      rw [← hW4]
      have := blk_alloc (blk_new (wq.alloc (.cells #[.int .i64 (i : Int)] 3)) (.cells #[.pointer (some ⟨wq.heap.size + 1 + 1, 0, none⟩)] 173)) (.cells #[.int .u8 0, .int .i64 0] 177)
      rw [World.size_alloc] at this
      exact this
     have hgf : W4.heap[wq.heap.size + 1 + 1]? = some (.cells #[.int .u8 0, .int .i64 0] 177 (0, 0)) := by
      rw [← hW4]
      have := blk_new ((wq.alloc (.cells #[.int .i64 (i : Int)] 3)).alloc (.cells #[.pointer (some ⟨wq.heap.size + 1 + 1, 0, none⟩)] 173)) (.cells #[.int .u8 0, .int .i64 0] 177)
      rw [World.size_alloc, World.size_alloc] at this
      exact this
     have hg6 : W4.heap[wq.heap.size]? = some (.cells #[.int .i64 (i : Int)] 3 (0, 0)) := blk_below (blk_new wq _) hF4
     obtain ⟨W5, hW5⟩ : ∃ W5, W4.drew = W5 := ⟨_, rfl⟩
     have hB45 : Below W4.heap.size W4 W5 := by rw [← hW5]; exact below_drew1 (Below.refl _ _)
     have hS5 := (HS3.out.below hF4).below hB45
     have hB5 := (HB3.out.trans (hF4.mono HB3.out.size)).trans (hB45.mono (Nat.le_trans HB3.out.size hF4.size))
     have h6 := blk_below hg6 hB45
     have h7 := blk_below hg7 hB45
     have hgf5 := blk_below hgf hB45
     obtain ⟨D, hD, hat, hhas⟩ := hS5.fl.map
     have qi5 := (hB45.cell (World.block_lt_of_cell? _ _ ((hF4.cell (World.block_lt_of_cell? _ _ qi)).trans qi))).trans ((hF4.cell (World.block_lt_of_cell? _ _ qi)).trans qi)
     have x6 := blk_cell h6 0
     have x7 := blk_cell h7 0
     simp only [List.getElem?_toArray, List.getElem?_cons_succ, List.getElem?_cons_zero] at x6 x7
     have HS5 := Lib.hid (And.intro hS5 (And.intro hB5 (And.intro h6 (And.intro h7 (And.intro hgf5 (And.intro hD (And.intro hat hhas)))))))
     have HC := Lib.hid (And.intro qi5 (And.intro x6 x7))
     have hnew : ∀ k b, P k = some b → b ≠ wq.heap.size + 1 + 1 := fun k b hk => by
      obtain ⟨c, a, _, hb⟩ := HSS.out.fl.flow k b hk
      have := blk_lt hb
      omega
     have HNEW := Lib.hid hnew
     rw [hW4]
     clear hF4 hg7 hgf hg6 hB45 hS5 hB5 h6 h7 hgf5 hD hat hhas qi5 x6 x7 hW4 hnew
     refine Go.Det.region_det (fun W => W = W5) 6 (by kernel_rfl) (by kernel_rfl) (by kernel_rfl) (by decide) hW5 ?_
     clear hW5
     repeat
      apply Go.Det.seqW_cons
      focus
       intro W hS
       obtain rfl : W = W5 := hS
       obtain ⟨qi5, x6, x7⟩ := HC.out
       go_wp2
       exact Go.Det.AtEnd.mk rfl
     refine Go.Det.seqW_nil ?_
     intro W hS
     obtain rfl : W = W5 := hS
     simp only [List.drop_succ_cons, List.drop_zero]
     refine wpList_mapUpdate_own _ rfl _ _ _ 171 rfl 3 173 key3 Try.underlying171 elemP _ m D rfl HS5.out.2.2.2.2.2.1 (by unfold maxLen; omega) (.int .i64 j) (ptrP (some (wq.heap.size + 1 + 1))) (kLit j) rfl rfl (keyOf3 j hwfj) (codeP (some (wq.heap.size + 1 + 1))) [] (elemP_mk _) ?_
     intro W6 hown6 hgr6
     have HR := Lib.hid (And.intro (RnAt.made (W4 := W) HS5.out.1 HS5.out.2.2.1 HS5.out.2.2.2.1 HS5.out.2.2.2.2.1 HNEW.out (by have := HBB.out.size; omega) hP hm HS5.out.2.2.2.2.2.1 HS5.out.2.2.2.2.2.2.1 HS5.out.2.2.2.2.2.2.2 hown6 hgr6) (HS5.out.2.1.grown hgr6 HS5.out.2.1.size fun r hr => (by cases hr; exact HS5.out.1.lm)))
     go_upto_region 12 with (fail)
     clear HS5 HC HNEW hown6 hgr6 hP x1 x1a q0 q1 q2 q3 qi hm HS3 HB3 HSS HBB
    case' some =>
     go_upto_region 12 with (at_lookup; refine wpList_lookup_ptr _ rfl _ _ rfl _ _ m s.F P rfl HS3.out.fl j rfl hwfj ?_; rw [hP]; simp only [ptrP, Option.map_some])
     obtain ⟨W6, hW6⟩ : ∃ W6, ((wq.alloc (.cells #[.int .i64 (i : Int)] 3)).alloc (.cells #[.pointer (some ⟨gf, 0, none⟩)] 173)) = W6 := ⟨_, rfl⟩
     have hF4 : Below (wq.alloc (.cells #[.int .i64 (i : Int)] 3)).heap.size (wq.alloc (.cells #[.int .i64 (i : Int)] 3)) W6 := by
      rw [← hW6]
      exact (Below.refl _ _).alloc (Nat.le_refl _) _
     have hg7 : W6.heap[wq.heap.size + 1]? = some (.cells #[.pointer (some ⟨gf, 0, none⟩)] 173 (0, 0)) := by
      rw [← hW6]
      have := blk_new (wq.alloc (.cells #[.int .i64 (i : Int)] 3)) (.cells #[.pointer (some ⟨gf, 0, none⟩)] 173)
      rw [World.size_alloc] at this
      exact this
     have HR := Lib.hid (And.intro (RnAt.there (HS3.out.below hF4) (blk_below (blk_new wq _) hF4) hg7 hP hm) (HB3.out.trans (hF4.mono HB3.out.size)))
     rw [hW6]
     clear hF4 hg7 hW6 hP x1 x1a q0 q1 q2 q3 qi hm HS3 HB3 HSS HBB
    all_goals
     obtain ⟨m', P', F', gf', c, a, hS6, h6, h7, hPj, hFj, hget, hup, hm'⟩ := HR.out.1
     have hB6 := HR.out.2
     have hb7 : Below W6.heap.size W6 (W6.alloc (.cells #[.slice none 0 0] 68)) := (Below.refl _ W6).alloc (Nat.le_refl _) _
     have hB7 := hB6.trans (hb7.mono hB6.size)
     have hA7 := Kd.C_below HW.out.1 hB7
     obtain ⟨ad', e', q0, q1, q2, q3⟩ := at_T56 hA7 (i : Int) (by omega) hlt1
     obtain rfl := Option.some.inj e'
     clear e'
     simp only [Int.toNat_natCast] at q0 q1 q2 q3
     obtain ⟨S, hS⟩ : ∃ S, (rd_T56 t i).f1 = S := ⟨_, rfl⟩
     rw [hS] at q1
     obtain ⟨C, W8, hcv, hb8, hcs⟩ := conv_bytes S (W6.alloc (.cells #[.slice none 0 0] 68))
     have x17 := blk_cell (blk_below hS6.x1 hb7) 0
     have x67 := blk_cell (blk_below h6 hb7) 0
     simp only [List.getElem?_toArray, List.getElem?_cons_succ, List.getElem?_cons_zero] at x17 x67
     have hb68 := hb7.trans (hb8.mono hb7.size)
     have h8 := blk_below (blk_new W6 (.cells #[.slice none 0 0] 68)) hb8
     have hout6 : W6.ownsRow w.heap.size 56 4 vo s.out.length (flat56 s.out) := hS6.out
     obtain ⟨go, co', rfl⟩ := own_formN hout6 (by omega)
     have hS8 := hS6.below hb68
     obtain ⟨cf, af, hFf0, hgf6⟩ := hS6.fl.flow j gf' hPj
     have hFf : F' j = some (cf, af) := hFf0
     rw [hFj] at hFf
     obtain ⟨rfl, rfl⟩ := Prod.mk.inj (Option.some.inj hFf)
     have hK8 : KAt W8 w.heap.size W8.heap.size w.heap.size w2.heap.size wq.heap.size (wq.heap.size + 1) W6.heap.size gf' (some ad) t.length c0 i (.slice (some ⟨go, 0, none⟩) s.out.length co') (.slice none 0 0) s.out [] c a :=
      ⟨hS8.x1, hS8.x3, blk_below h6 hb68, blk_below h7 hb68, h8, blk_below hgf6 hb68, hS8.out, ⟨rfl, .inl ⟨rfl, rfl⟩⟩, blk_lt h8, blk_lt (blk_below hgf6 hb68), Nat.le_refl _⟩
     have HK8 := Lib.hid hK8
     have HS6 := Lib.hid (And.intro hS6 (And.intro hB6 (And.intro hPj (And.intro hget hup))))
     have HB68 := Lib.hid hb68
     have HCS := Lib.hid hcs
     have HS := Lib.hid hS
     have hSz : S.size ≤ 1000000 := by
      rw [← hS]
      refine hts _ ?_
      unfold rd_T56
      rw [Int.toNat_natCast, List.getD_eq_getElem?_getD, List.getElem?_eq_getElem hlt]
      exact List.getElem_mem hlt
     have hsz7 : (W6.alloc (.cells #[.slice none 0 0] 68)).heap.size = W6.heap.size + 1 := by simp
     have hb8s := hb8.size
     clear hS6 h6 h7 hPj hFj hget hup hB6 hb7 hB7 hA7 hcs hb8 hb68 h8 hS8 hgf6 hK8 HR q0 q2 q3 hFf0 hFf hout6 hS
     go_wp2
     go_loopw [55] (fun v wx => ∃ (k : Nat) (L : List (Nat × Int)) (vb : Value), k ≤ S.size ∧ v = .int .i64 k ∧
      KAt wx w.heap.size W8.heap.size w.heap.size w2.heap.size wq.heap.size (wq.heap.size + 1) W6.heap.size gf' (some ad) t.length c0 i (.slice (some ⟨go, 0, none⟩) s.out.length co') vb (outLn t i s.out L) (byL L) (sayL c L) (atL a i L) ∧
      Fr (XK W8.heap.size W6.heap.size gf' (.slice (some ⟨go, 0, none⟩) s.out.length co')) W8 wx ∧ kpB S S.size 0 c = L ++ kpB S (S.size - k) k (sayL c L) ∧ L.length ≤ k) (fun v _ => S.size - (intOf v).toNat)
     case atStart => exact ⟨0, [], _, Nat.zero_le _, rfl, HK8.out, Fr.refl _ _, by rw [Nat.sub_zero]; rfl, Nat.le_refl _⟩
     case round =>
      obtain ⟨wx, rfl⟩ : ∃ wx, wx = wr := ⟨wr, rfl⟩
      obtain ⟨k, L, vb, hk, rfl, hK, hF, hkp, hLk⟩ := hrel
      have HK := Lib.hid hK
      have HF := Lib.hid hF
      have HKP := Lib.hid hkp
      clear hK hF hkp x17 x67 q1 hcv
      by_cases hlk : k < S.size
      ·have hlk1 : (k : Int) < (S.size : Int) := by omega
       have hgo := (HS6.out.1.out.lt go rfl).2
       obtain ⟨cc, aa, _, hgfb⟩ := HS6.out.1.fl.flow j gf' HS6.out.2.2.1
       have hgfl := blk_lt hgfb
       have q8 := HCS.out k hlk
       rw [hsz7] at q8
       have hlt8 := World.block_lt_of_cell? _ _ q8
       have q8x : wx.cell? ⟨W6.heap.size + 1, k, none⟩ = some (.int .u8 (bt S k)) := by
        rw [World.cell?_of_block (w := W8) (w' := wx) (HF.out.block _ hlt8 ?_)]
        ·exact q8
        ·rintro (h | h | h | h)
         ·simp only [Value.ownBlock, Option.some.injEq] at h
          omega
         ·have h' : W6.heap.size + 1 = W6.heap.size := h
          omega
         ·have h' : W6.heap.size + 1 = gf' := h
          omega
         ·have h' : W8.heap.size ≤ W6.heap.size + 1 := h
          have h2 : W6.heap.size + 1 < W8.heap.size := hlt8
          omega
       have hBx : Below w.heap.size w wx := (HS6.out.2.1.trans (HB68.out.mono HS6.out.2.1.size)).trans (HF.out.toBelow (by have := HS6.out.2.1.size; have := HB68.out.size; omega) (xk_new HK.out (by have := HS6.out.2.1.size; omega) (HS6.out.1.fl.lo j gf' HS6.out.2.2.1) (by have := HS6.out.2.1.size; have := HB68.out.size; omega)))
       have hbr := bt_range S k
       have hkc := fun (W : World) (ch : Int) (hb : Below wx.heap.size wx W) => keep_calls w.heap.size W8.heap.size w.heap.size w2.heap.size wq.heap.size (wq.heap.size + 1) W6.heap.size gf' (some ad) t.length c0 i k ch (.slice (some ⟨go, 0, none⟩) s.out.length co') vb (outLn t i s.out L) (byL L) (sayL c L) (atL a i L) t W rfl hlt
        (by rw [outL_len]; exact hlen) (by omega) (by unfold byL; rw [List.length_map]; omega) (by omega) (Kd.C_below HW.out.1 (hBx.trans (hb.mono hBx.size))) (HK.out.fr hb)
       have HKC := Lib.hid hkc
       have hst := kpB_on S k (sayL c L) hlk
       have HST := Lib.hid hst
       have hwc := fun W => white_calls (bt S k) hbr.1 hbr.2 W
       obtain ⟨b, hbw⟩ : ∃ b, whiteP (bt S k) = b := ⟨_, rfl⟩
       rw [hbw] at hwc
       have HBW := Lib.hid hbw
       have HWC := Lib.hid hwc
       have HBX := Lib.hid hBx
       obtain ⟨ch, hch⟩ : ∃ ch, bt S k = ch := ⟨_, rfl⟩
       rw [hch] at q8x HST HWC HBW
       clear hst hwc hbw hkc hbr q8 hBx hgo hgfb hgfl hlt8 hch
       cases b with
       | false =>
        go_wp2_with (first | (go_at_call 35; (with_reducible refine (HWC.out _).mono ?_); rintro e w9 ⟨rfl, hb9⟩; have HB9 := Lib.hid hb9; clear hb9) | (go_at_call 145; (with_reducible refine (HKC.out _ _ HB9.out).mono ?_); rintro e w10 ⟨rfl, vb', hk10, hf10⟩; have HK10 := Lib.hid (And.intro hk10 hf10); clear hk10 hf10))
        go_roundw
        case rel =>
         refine ⟨k + 1, L ++ [(k, ch)], vb', by omega, by go_num, ?_, Fr.trans (Fr.trans HF.out (Fr.below HB9.out)) HK10.out.2, ?_, by simp; omega⟩
         ·rw [← keepOut_push, byL_push, sayL_push, atL_push]
          exact HK10.out.1
         ·rw [HKP.out, HST.out, HBW.out, sayL_push, List.append_assoc]
          rfl
        case measure => simp [intOf]; omega
       | true =>
        obtain ⟨bl, hbl⟩ : ∃ bl, (sayL c L == 0 || sayL c L == 32) = bl := ⟨_, rfl⟩
        have hbc := fun W => blank_calls (sayL c L) (atL a i L) W
        rw [hbl] at hbc
        have HBC := Lib.hid hbc
        have HBL := Lib.hid hbl
        clear hbc hbl
        cases bl with
        | false =>
         go_wp2_with (first | (go_at_call 35; (with_reducible refine (HWC.out _).mono ?_); rintro e w9 ⟨rfl, hb9⟩; have HB9 := Lib.hid hb9; have HK9 := Lib.hid (HK.out.fr hb9); have z7 := blk_cell HK9.out.x7 0; have zf0 := blk_cell HK9.out.xf 0; have zf1 := blk_cell HK9.out.xf 1; simp only [List.getElem?_toArray, List.getElem?_cons_succ, List.getElem?_cons_zero] at z7 zf0 zf1; clear hb9) | (go_at_call 146; (with_reducible refine (HBC.out _).mono ?_); rintro e w11 ⟨rfl, hb11⟩; have HB11 := Lib.hid (HB9.out.trans (hb11.mono HB9.out.size)); clear hb11) | (go_at_call 145; (with_reducible refine (HKC.out _ _ HB11.out).mono ?_); rintro e w10 ⟨rfl, vb', hk10, hf10⟩; have HK10 := Lib.hid (And.intro hk10 hf10); clear hk10 hf10))
         go_roundw
         case rel =>
          refine ⟨k + 1, L ++ [(k, 32)], vb', by omega, by go_num, ?_, Fr.trans (Fr.trans HF.out (Fr.below HB11.out)) HK10.out.2, ?_, by simp; omega⟩
          ·rw [← keepOut_push, byL_push, sayL_push, atL_push]
           exact HK10.out.1
          ·have hne : ¬ (sayL c L = 0 ∨ sayL c L = 32) := fun h => by
            have h2 := HBL.out
            rw [Bool.or_eq_false_iff, beq_eq_false_iff_ne, beq_eq_false_iff_ne] at h2
            exact h.elim h2.1 h2.2
           rw [HKP.out, HST.out, HBW.out, if_pos rfl, if_neg hne, sayL_push, List.append_assoc]
           rfl
         case measure => simp [intOf]; omega
        | true =>
         go_wp2_with (first | (go_at_call 35; (with_reducible refine (HWC.out _).mono ?_); rintro e w9 ⟨rfl, hb9⟩; have HB9 := Lib.hid hb9; have HK9 := Lib.hid (HK.out.fr hb9); have z7 := blk_cell HK9.out.x7 0; have zf0 := blk_cell HK9.out.xf 0; have zf1 := blk_cell HK9.out.xf 1; simp only [List.getElem?_toArray, List.getElem?_cons_succ, List.getElem?_cons_zero] at z7 zf0 zf1; clear hb9) | (go_at_call 146; (with_reducible refine (HBC.out _).mono ?_); rintro e w11 ⟨rfl, hb11⟩; have HB11 := Lib.hid (HB9.out.trans (hb11.mono HB9.out.size)); clear hb11))
         go_roundw
         case rel =>
          refine ⟨k + 1, L, vb, by omega, by go_num, HK.out.fr HB11.out, Fr.trans HF.out (Fr.below HB11.out), ?_, by omega⟩
          have hne : sayL c L = 0 ∨ sayL c L = 32 := by
           have h2 := HBL.out
           rw [Bool.or_eq_true, beq_iff_eq, beq_iff_eq] at h2
           exact h2
          rw [HKP.out, HST.out, HBW.out, if_pos rfl, if_pos hne]
         case measure => simp [intOf]; omega
      ·obtain rfl : k = S.size := by omega
       have hgo := (HS6.out.1.out.lt go rfl).2
       obtain ⟨Ab, cb, rfl⟩ := own_slice HK.out.b
       have hstr := string_of_reads (P := Try.prog) (w := wx) (src := 68) (dst := 9) (c := cb) Try.underlying68 Try.underlying5 Try.underlying9 (own_reads' HK.out.b)
       have x3 := blk_cell HK.out.x3 0
       have x6 := blk_cell HK.out.x6 0
       have x8 := blk_cell HK.out.x8 0
       have hlX : (outLn t i s.out L).length = s.out.length := outL_len _ _ _ _
       have hoL : wx.ownsRow w.heap.size 56 4 (.slice (some ⟨go, 0, none⟩) s.out.length co') s.out.length (flat56 (outLn t i s.out L)) := by
        have := HK.out.out
        rw [hlX] at this
        exact this
       have hfz := World.ownsRow.frozenAt hoL (i * 4 + 1)
       have xo := hoL.cellAt (i * 4 + 1) (by omega)
       rw [flatN_at _ i 1 (by rw [hlX]; omega) (by omega)] at xo
       simp only [cellsN, List.getElem?_toArray, List.getElem?_cons_succ, List.getElem?_cons_zero] at x3 x6 x8 xo
       have hB0 := HS6.out.2.1.size
       have hnext := sq_next (u := strOfNums (byL L)) HS6.out.1 HB68.out rfl rfl HK.out HF.out HS6.out.2.2.1 (by rw [hlX]; omega) hlX hB0
       have HN := Lib.hid hnext
       have hkp : kpB S S.size 0 c = L := by rw [HKP.out, Nat.sub_self]; simp [kpB]
       have HKP2 := Lib.hid hkp
       have hio : (i : Int) < (s.out.length : Int) := by omega
       clear hoL hnext hkp hgo HKP
       go_wp2
       go_roundw
       case rel =>
        have hnode : sqNode O t i s = ⟨(outLn t i s.out L).modify i (tx (strOfNums (byL L))), upF F' j (sayL c L, atL a i L)⟩ := by
         unfold sqNode
         rw [if_pos h46, HS.out, hj, HS6.out.2.2.2.1, HKP2.out, HS6.out.2.2.2.2]
        refine ⟨i + 1, m', .slice (some ⟨go, 0, none⟩) s.out.length co', sqNode O t i s, P', by omega, by go_num, ?_, ?_, by rw [HRUN.out, sqRun_step O t _ i s hlt], ?_, hm'⟩
        ·rw [hnode]
         exact HN.out.1
        ·exact HS6.out.2.1.trans HN.out.2
        ·rw [hnode]
         show ((outLn t i s.out L).modify i _).length = _
         rw [List.length_modify, hlX]
         exact hlen
       case measure => simp [intOf]; omega
   ·have h46' : ((rd_T56 t i).f0 == 46) = false := beq_eq_false_iff_ne.2 h46
    have hstep : sqNode O t i s = s := by unfold sqNode; rw [if_neg h46]
    go_wp2
    go_roundw
    case rel => exact ⟨i + 1, m, vo, s, P, by omega, by go_num, HS3.out, HB3.out, by rw [HRUN.out, sqRun_step O t _ i s hlt, hstep], hlen, by omega⟩
    case measure => simp [intOf]; omega
  ·obtain rfl : i = t.length := by omega
   have hs : sqRun O t t.length 0 (sq0 t) = s := by rw [HRUN.out, Nat.sub_self]; rfl
   have hinv : SqInv O t.length s.F := by
    rw [← hs]
    exact sq_inv_run t.length 0 (sq0 t) (fun j c a h => by cases h) (by omega)
   obtain ⟨D, hD, hat, hhas⟩ := HSS.out.fl.map
   have HD := Lib.hid (And.intro hD (And.intro hat hhas))
   have hsm : Small 1000000 s.out := by
    rw [← hs]
    exact sq_small_run hts t.length 0 (sq0 t) hts
   have HSM := Lib.hid hsm
   clear hsm
   have HINV := Lib.hid (And.intro hs hinv)
   clear hs hinv hD hat hhas HRUN
   go_wp2_with (at_range; refine wpList_range_own _ rfl _ 171 rfl 3 173 key3 Try.underlying171 elemP _ m D rfl HD.out.1 ?_; intro w0 hrg0 hg0 hs0)
   go_frame
   have hT0 : TAt w0 w.heap.size w2.heap.size vo s.out s.F P := by
    refine TAt.fr (X := fun _ => False) (W := wq) ⟨HSS.out.x3, HSS.out.out, fun j b hb => HSS.out.fl.flow j b hb⟩ (Fr.grown hg0 fun r hr => by cases hr) fun _ _ _ _ h => h
   have hB0 : Below w.heap.size w w0 := HBB.out.grown hg0 HBB.out.size fun r hr => by cases hr
   have hstart : trimsP O s.F (fun j => Maps.has D (kLit j)) s.out = s.out := trims_start _ _ _ _ fun i hF => by
    cases hP : P (rd O i) with
    | none => rw [HSS.out.fl.none_ _ hP] at hF; cases hF
    | some b =>
     cases hh : Maps.has D (kLit (rd O i)) with
     | true => rfl
     | false =>
      have h1 := Maps.atKey_of_not_has hh (codeP none)
      rw [HD.out.2.1, hP] at h1
      exact absurd (codeP_inj h1) (by simp)
   go_loopw [88] (fun _ wr => ∃ (left : Lit → Bool) (cnt : Nat), wr.ranges Try.prog 3 elemP (w2.heap.size + 1) wq.heap.size m D left cnt ∧ (∀ z, left z = true → Maps.has D z = true) ∧
     TAt wr w.heap.size w2.heap.size vo (trimsP O s.F (fun j => left (kLit j)) s.out) s.F P ∧ Below w.heap.size w wr) (fun _ wr => wr.rangeLeft (w2.heap.size + 1) wq.heap.size)
   case atStart => exact ⟨_, _, hrg0, fun _ h => h, by rw [hstart]; exact hT0, hB0⟩
   case round =>
    obtain ⟨wx, rfl⟩ : ∃ wx, wx = wr := ⟨wr, rfl⟩
    obtain ⟨left, cnt, hrg, hlh, hT, hB⟩ := hrel
    have HT := Lib.hid hT
    have HB := Lib.hid hB
    have HLH := Lib.hid hlh
    have x3 := blk_cell hT.x3 0
    simp only [List.getElem?_toArray, List.getElem?_cons_zero] at x3
    clear hT hB hlh hT0 hB0 hstart hrg0 hg0 hs0 x1
    go_wp2_with (at_next; refine wpList_next_ranges _ rfl _ rfl 3 key3 elemP (Value.int .i64) ptrP (fun key kl h => by obtain ⟨x, h1, _⟩ := Maps.keyOf_int_inv Try.underlying3 h; exact ⟨x, h1⟩) (fun v y h => by obtain ⟨p, h1, _⟩ := elemP_inv h; exact ⟨p, h1⟩) (w2.heap.size + 1) wq.heap.size m D left cnt rfl hrg ?_ ?_)
    ·intro _ hl0
     have hend : trimsP O s.F (fun j => left (kLit j)) s.out = squeezeP O t := by
      unfold squeezeP
      rw [HINV.out.1]
      congr 1
      funext j
      exact hl0 _
     have HE := Lib.hid hend
     have hto := HT.out.out
     obtain ⟨Av, cv, rfl⟩ := own_slice hto
     rw [trims_len, hlen] at hto x3
     have HTO := Lib.hid hto
     clear hend hrg hto HT
     go_wp2
     go_ret
     refine ⟨_, rfl, ?_, HB.out⟩
     rw [← HE.out]
     refine own_R56 ?_ _ (Nat.le_refl _)
     rw [trims_len, hlen]
     exact HTO.out
    ·intro x p kl y ps w1 cnt1 hkey hlx hpy hatl hrg1 hlt hg1 hs1 hen
     obtain ⟨x', hx1, hx2, _⟩ := Maps.keyOf_int_inv Try.underlying3 hkey
     obtain rfl : x = x' := by simpa using hx1
     obtain rfl : kl = kLit x := hx2
     rw [elemP_mk] at hpy
     have hPx : P x = p := by
      have h1 := HD.out.2.1 x
      rw [hatl] at h1
      have h2 := (Prod.mk.inj (Option.some.inj hpy)).1
      exact (codeP_inj (h2.trans h1)).symm
     have hne := HD.out.2.2 x (HLH.out _ hlx)
     rw [hPx] at hne
     obtain ⟨b, rfl⟩ := Option.ne_none_iff_exists'.mp hne
     have hF1 : Fr (fun k => k = wq.heap.size) wx w1 := Fr.grown hg1 fun r hr => (by cases hr; rfl)
     have hleq := hrg.left_eq
     have HLEQ := Lib.hid hleq
     clear hleq
     obtain ⟨es, clock, since, seen, c00, _, _, _, _, hrb, _⟩ := hrg
     have hT1 := HT.out.fr hF1 fun g cs tt hg e => by
      have e' : g = wq.heap.size := e
      rw [e', hrb] at hg
      cases hg
     have hB1 : Below w.heap.size w w1 := HB.out.grown hg1 HB.out.size fun r hr => (by cases hr; exact HBB.out.size)
     obtain ⟨c, a, hFx, hfl⟩ := hT1.fl x b hPx
     have f0 := blk_cell hfl 0
     have f1 := blk_cell hfl 1
     have y3 := blk_cell hT1.x3 0
     simp only [List.getElem?_toArray, List.getElem?_cons_succ, List.getElem?_cons_zero] at f0 f1 y3
     have HT1 := Lib.hid hT1
     have HB1 := Lib.hid hB1
     have HR1 := Lib.hid (And.intro hrg1 (And.intro hlt hlx))
     have HF := Lib.hid (And.intro hFx hPx)
     simp only [ptrP, Option.map_some] at hen
     have hll : ∀ z, (left z && !z.sameKey (kLit x)) = true → Maps.has D z = true := fun z hz => HLH.out z (by rw [Bool.and_eq_true] at hz; exact hz.1)
     have HLL := Lib.hid hll
     have hother : ∀ j, j ≠ x → (left (kLit j) && !(kLit j).sameKey (kLit x)) = left (kLit j) := fun j hj => by rw [sameKey_lit, decide_eq_false hj]; simp
     have HOT := Lib.hid hother
     clear hT1 hB1 hrg1 hlt hlx hkey hx1 hatl hpy hPx hne hF1 hrb hfl hg1 hs1 hll hother x3 hFx
     simp only [ptrP, Option.map_some]
     by_cases h32 : c = 32
     ·subst h32
      obtain ⟨ia, rfl, hia, hra⟩ := (HINV.out.2 x 32 a HF.out.1).resolve_left (by decide)
      have hlN : (trimsP O s.F (fun j => left (kLit j)) s.out).length = t.length := by rw [trims_len]; exact hlen
      have hstep := trims_step O s.F (fun j => left (kLit j)) (fun j => left (kLit j) && !(kLit j).sameKey (kLit x)) s.out x ia HOT.out HR1.out.2.2 (by rw [sameKey_lit]; simp) HF.out.1 (by omega) hra
      obtain ⟨go, co', rfl⟩ := own_formN HT1.out.out (by omega)
      obtain ⟨U, hU⟩ : ∃ U, trimsP O s.F (fun j => left (kLit j)) s.out = U := ⟨_, rfl⟩
      rw [hU] at hlN hstep HT1 y3
      rw [hlN] at HT1 y3
      obtain ⟨u, hu⟩ : ∃ u, (s.out.getD ia z56).f1 = u := ⟨_, rfl⟩
      rw [hu] at hstep
      have husz : u.size ≤ 1000000 := by
       rw [← hu]
       refine HSM.out _ ?_
       rw [List.getD_eq_getElem?_getD, List.getElem?_eq_getElem (by omega)]
       exact List.getElem_mem (by omega)
      have htrim := trim_f u (by omega)
      obtain ⟨W5, hW5⟩ : ∃ W5, w1.drew = W5 := ⟨_, rfl⟩
      have hb15 : Below w1.heap.size w1 W5 := by rw [← hW5]; exact below_drew1 (Below.refl _ _)
      have hT5 := HT1.out.fr (Fr.below (X := fun _ => False) hb15) (fun _ _ _ _ h => h)
      have hB5 : Below w.heap.size w W5 := HB1.out.trans (hb15.mono HB1.out.size)
      have hfu : (cellsN (U.getD ia z56))[1]? = some (.string u) := by rw [hstep.2, ← hu]; rfl
      have hR5 : W5.ranges Try.prog 3 elemP (w2.heap.size + 1) wq.heap.size m D (fun z => left z && !z.sameKey (kLit x)) cnt1 := by
       rw [← hW5]
       exact HR1.out.1.kept (row := none) ⟨rfl, rfl, rfl, Nat.le_refl _, fun _ _ _ => rfl⟩ (by simp) (by simp)
      have HT5 := Lib.hid (And.intro hT5 (And.intro hB5 hR5))
      have HST := Lib.hid hstep
      have hfacts : ∀ W, Below W5.heap.size W5 W → W.cell? ⟨w2.heap.size, 0, none⟩ = some (.slice (some ⟨go, 0, none⟩) t.length co') ∧ W.cell? ⟨b, 0, none⟩ = some (.int .u8 32) ∧ W.cell? ⟨b, 1, none⟩ = some (.int .i64 (ia : Int)) ∧
        W.cell? ⟨go, ia * 4 + 1, none⟩ = some (.string u) ∧ W.frozen? ⟨go, ia * 4 + 1, none⟩ = false := fun W hW => by
       have hT := hT5.fr (Fr.below (X := fun _ => False) hW) (fun _ _ _ _ h => h)
       obtain ⟨c', a', hc', hcell⟩ := hT.fl x b HF.out.2
       rw [HF.out.1] at hc'
       obtain ⟨rfl, rfl⟩ := Prod.mk.inj (Option.some.inj hc')
       have hto : W.ownsRow w.heap.size 56 4 (.slice (some ⟨go, 0, none⟩) t.length co') t.length (flat56 U) := by
        have := hT.out
        rw [hlN] at this
        exact this
       refine ⟨?_, ?_, ?_, ?_, World.ownsRow.frozenAt hto _⟩
       ·have := blk_cell hT.x3 0; simpa using this
       ·have := blk_cell hcell 0; simpa using this
       ·have := blk_cell hcell 1; simpa using this
       ·rw [hto.cellAt (ia * 4 + 1) (by omega), flatN_at U ia 1 (by omega) (by omega)]
        exact hfu
      have HFC := Lib.hid hfacts
      have HTR := Lib.hid (fun W => strings_TrimSuffix.calls u ⟨#[32]⟩ (trimT u) W htrim)
      have HUN := Lib.hid hU
      have hia' : (ia : Int) < (t.length : Int) := by omega
      clear hT5 hB5 hfacts htrim hstep hu hfu hU hb15 hR5
      go_upto_region 28 with (fail)
      refine Go.Det.region_det (fun W => Below W5.heap.size W5 W) 18 (by kernel_rfl) (by kernel_rfl) (by kernel_rfl) (by decide) (by rw [hW5]; exact Below.refl _ _) ?_
      clear hW5 f0 f1 y3
      repeat
       apply Go.Det.seqW_cons
       focus
        intro W hS
        replace hS : Below W5.heap.size W5 W := hS
        obtain ⟨z3, z0, z1, zu, zf⟩ := HFC.out W hS
        go_wp2_with (go_at_call 147; (with_reducible refine (HTR.out _).mono ?_); rintro e W4 ⟨rfl, ⟨⟨nd, rfl⟩⟩⟩; replace hS := pw_below_drewN hS nd)
        exact Go.Det.AtEnd.mk hS
      refine Go.Det.seqW_nil ?_
      intro W hS
      replace hS : Below W5.heap.size W5 W := hS
      obtain ⟨z3, z0, z1, zu, zf⟩ := HFC.out W hS
      simp only [List.drop_succ_cons, List.drop_zero]
      have hfr : Fr (fun _ => False) W5 W := Fr.below hS
      have hTW := HT5.out.1.fr hfr (fun _ _ _ _ h => h)
      have htr := hTW.trim (u := trimT u) hlN hia
      have hgW : W5.grownBy W none := ⟨hS.os, hS.tape, hS.output, hS.size, fun k hk _ => hS.block k hk⟩
      have hRW := HT5.out.2.2.kept hgW (by simp) (by simp)
      obtain ⟨csg, hcsg⟩ := own_typed hTW.out go rfl
      obtain ⟨es, clock, since, seen, c00, hmb, _, _, _, hrb, _⟩ := hRW
      have hne1 : some (w2.heap.size + 1) ≠ some go := fun e => by
       have e' : w2.heap.size + 1 = go := Option.some.inj e
       rw [← e', hmb] at hcsg
       cases hcsg
      have hne2 : some wq.heap.size ≠ some go := fun e => by
       have e' : wq.heap.size = go := Option.some.inj e
       rw [← e', hrb] at hcsg
       cases hcsg
      have hRW2 := (HT5.out.2.2.kept hgW (by simp) (by simp)).kept htr.2.2 hne1 hne2
      have HRW := Lib.hid (And.intro hRW2 (And.intro htr.1 ((HT5.out.2.1.trans (hS.mono HT5.out.2.1.size)).trans htr.2.1)))
      clear hfr hTW htr hgW hcsg hmb hrb hne1 hne2 hRW2
      go_wp2
      go_roundw
      case rel => exact ⟨_, cnt1, HRW.out.1, HLL.out, by rw [HST.out.1, trims_len, hlen]; exact HRW.out.2.1, HRW.out.2.2⟩
      case measure => rw [HRW.out.1.left_eq, HLEQ.out]; exact HR1.out.2.1
     ·have h32' : (c == 32) = false := beq_eq_false_iff_ne.2 h32
      have hsk : trimsP O s.F (fun j => left (kLit j) && !(kLit j).sameKey (kLit x)) s.out = trimsP O s.F (fun j => left (kLit j)) s.out := trims_skip _ _ _ _ _ x HOT.out fun a' h => by
       rw [HF.out.1] at h
       exact h32 (Prod.mk.inj (Option.some.inj h)).1
      have HSK := Lib.hid hsk
      clear hsk h32
      go_wp2
      go_roundw
      case rel => exact ⟨_, cnt1, HR1.out.1, HLL.out, by rw [HSK.out]; exact HT1.out, HB1.out⟩
      case measure => rw [HR1.out.1.left_eq, HLEQ.out]; exact HR1.out.2.1
def norm_squeezed.f (k : Nat) (l0 : List S56) : Option (List S56) := (norm_owners.f k l0).bind fun O =>
 if l0.length ≤ 400000 ∧ O.length = l0.length ∧ (O.all fun j => (Lit.int .i64 j).wf) = true ∧ (l0.all fun x => decide (x.f1.size ≤ 1000000)) = true then some (squeezeP O l0) else none
theorem norm_squeezed.mono : ∀ l0 k, LeO (norm_squeezed.f k l0) (norm_squeezed.f (k + 1) l0) := fun l0 k => LeO.bind (norm_owners.mono l0 k) fun _ => LeO.refl _
theorem norm_squeezed.calls (k : Nat) (A0 : Option Addr) (c0 : Nat) (l0 : List S56) (r : List S56) (w : World) (hr0 : Kd.C k56 w A0 l0.length l0) (hc0 : l0.length ≤ c0) (h : norm_squeezed.f k l0 = some r) :
  Calls Try.prog 111 #[.slice A0 l0.length c0] w fun e w' => ∃ v0_ : Value, e = .returned v0_ ∧ Kd.R k56 56 w' w.heap.size (fun _ => True) v0_ r ∧ Below w.heap.size w w' := by
 unfold norm_squeezed.f at h
 rw [Option.bind_eq_some_iff] at h
 obtain ⟨O, hO, h⟩ := h
 by_cases hs : l0.length ≤ 400000 ∧ O.length = l0.length ∧ (O.all fun j => (Lit.int .i64 j).wf) = true ∧ (l0.all fun x => decide (x.f1.size ≤ 1000000)) = true
 ·rw [if_pos hs] at h
  obtain rfl := Option.some.inj h
  obtain ⟨h1, h2, h3, h4⟩ := hs
  exact squeezed_walk k A0 c0 l0 O w hr0 hc0 h1 hO h2 (List.all_eq_true.mp h3) fun x hx => by simpa using List.all_eq_true.mp h4 x hx
 ·rw [if_neg hs] at h
  cases h
end Go.Proofs.Ythcmfjpheanphaa.Pr
namespace Go.Proofs.Ythcmfjpheanphaa.Pr
open Go.RowKit Go.Proofs.YthcmfjpheanphaaW.PrintWords Go.Proofs.YthcmfjpheanphaaW.PrintLast Go.Proofs.YthcmfjpheanphaaW.PrintMore
attribute [local go_sem] max2_int min2_int max_two min_two max_three min_three max_four min_four
def stylusref05_flowed.f (a0 : Int) : Option (Bool) := if a0 = 49 then (some true) else (if a0 = 50 then (some true) else (if a0 = 51 then (some true) else (if a0 = 112 then (some true) else (if a0 = 105 then (some true) else (if a0 = 99 then (some true) else (some (a0 == 110)))))))
def stylusref05_Flow.l0 : Nat → List (S56) → Int → Int → Option (Int)
 | 0, _, _, _ => none
 | k + 1, x0, x1, x5 => if x5 ≥ 0 then (if 0 ≤ x5 then (if x5 < (x0.length : Int) then ((stylusref05_flowed.f ((rd_T56 x0 x5).f0)).bind fun t328 => (if t328 = true then (if x1 < (wrap64 (x5 + ((rd_T56 x0 x5).f3))) then (some x5) else (stylusref05_Flow.l0 k x0 x1 (wrap64 (x5 - 1)))) else (stylusref05_Flow.l0 k x0 x1 (wrap64 (x5 - 1))))) else (none)) else (none)) else (some (-1))
def stylusref05_Flow.f (k : Nat) (l0 : List (S56)) (a1 : Int) : Option (Int) := stylusref05_Flow.l0 k l0 a1 (wrap64 (a1 - 1))
theorem stylusref05_Flow.mono_l : ∀ k, (∀ y0 y1 y2, LeO (stylusref05_Flow.l0 k y0 y1 y2) (stylusref05_Flow.l0 (k + 1) y0 y1 y2))
 | 0 => fun _ _ _ r h => by simp [stylusref05_Flow.l0] at h
 | k + 1 => by
  have ih0 := stylusref05_Flow.mono_l k
  ·intro y0 y1 y2
   unfold stylusref05_Flow.l0
   repeat' first
   | (with_reducible exact ih0 _ _ _)
   | (with_reducible exact LeO.refl _)
   | (with_reducible exact LeO.none _)
   | (with_reducible refine LeO.ite ?_ ?_)
   | (with_reducible refine LeO.bind ?_ (fun _ => ?_))
   | exact ih0 _ _ _
   | exact LeO.none _
   | refine LeO.ite ?_ ?_
   | refine LeO.bind ?_ (fun _ => ?_)
theorem stylusref05_Flow.mono : ∀ a0 a1 k, LeO (stylusref05_Flow.f k a0 a1) (stylusref05_Flow.f (k + 1) a0 a1) := by
 intro a0 a1 k
 have ih0 := stylusref05_Flow.mono_l k
 unfold stylusref05_Flow.f
 repeat' first
   | (with_reducible exact ih0 _ _ _)
   | (with_reducible exact LeO.refl _)
   | (with_reducible exact LeO.none _)
   | (with_reducible refine LeO.ite ?_ ?_)
   | (with_reducible refine LeO.bind ?_ (fun _ => ?_))
   | exact ih0 _ _ _
   | exact LeO.none _
   | refine LeO.ite ?_ ?_
   | refine LeO.bind ?_ (fun _ => ?_)
mutual
def stylusref05_Spots.l0 : Nat → List (S56) → Int → List (S184) → Int → Option ((List (S184)))
 | 0, _, _, _, _ => none
 | k + 1, x0, x1, x5, x6 => if 0 ≤ x1 then (if x1 < (x0.length : Int) then (if x6 < (wrap64 (x1 + ((rd_T56 x0 x1).f3))) then (if 0 ≤ x6 then (if x6 < (x0.length : Int) then (if ((rd_T56 x0 x6).f0) = 46 then ((stylusref05_Flow.f k x0 x6).bind fun t332 => (stylusref05_Spots.j1 k x0 x1 x5 x6 (t332 != x1))) else (stylusref05_Spots.j1 k x0 x1 x5 x6 true)) else (none)) else (none)) else (some x5)) else (none)) else (none)
def stylusref05_Spots.j1 : Nat → List (S56) → Int → List (S184) → Int → Bool → Option ((List (S184)))
 | 0, _, _, _, _, _ => none
 | k + 1, x0, x1, x5, x6, x34 => if x34 = true then (stylusref05_Spots.l0 k x0 x1 x5 (wrap64 (x6 + 1))) else (stylusref05_Spots.l1 k x0 x1 x5 x6 0)
def stylusref05_Spots.l1 : Nat → List (S56) → Int → List (S184) → Int → Int → Option ((List (S184)))
 | 0, _, _, _, _, _ => none
 | k + 1, x0, x1, x5, x6, x7 => if 0 ≤ x6 then (if x6 < (x0.length : Int) then (if x7 < (((rd_T56 x0 x6).f1).size : Int) then (if 0 ≤ x7 then ((stylusref01_White.f (bt ((rd_T56 x0 x6).f1) x7)).bind fun t335 => (if t335 = true then (if x7 = 0 then (if x5.length < 5864062014805 then (stylusref05_Spots.l1 k x0 x1 (x5 ++ [(⟨32, x6, x7⟩ : S184)]) x6 (wrap64 (x7 + 1))) else (none)) else (if 0 ≤ (wrap64 (x7 - 1)) then (if (wrap64 (x7 - 1)) < (((rd_T56 x0 x6).f1).size : Int) then ((stylusref01_White.f (bt ((rd_T56 x0 x6).f1) (wrap64 (x7 - 1)))).bind fun t340 => (if t340 = true then (stylusref05_Spots.l1 k x0 x1 x5 x6 (wrap64 (x7 + 1))) else (if x5.length < 5864062014805 then (stylusref05_Spots.l1 k x0 x1 (x5 ++ [(⟨32, x6, x7⟩ : S184)]) x6 (wrap64 (x7 + 1))) else (none)))) else (none)) else (none))) else (if x5.length < 5864062014805 then (stylusref05_Spots.l1 k x0 x1 (x5 ++ [(⟨bt ((rd_T56 x0 x6).f1) x7, x6, x7⟩ : S184)]) x6 (wrap64 (x7 + 1))) else (none)))) else (none)) else (stylusref05_Spots.l0 k x0 x1 x5 (wrap64 (x6 + 1)))) else (none)) else (none)
end
def stylusref05_Spots.f (k : Nat) (l0 : List (S56)) (a1 : Int) : Option ((List (S184))) := stylusref05_Spots.l0 k l0 a1 ([] : List (S184)) (wrap64 (a1 + 1))
theorem stylusref05_Spots.mono_l : ∀ k, (∀ y0 y1 y2 y3, LeO (stylusref05_Spots.l0 k y0 y1 y2 y3) (stylusref05_Spots.l0 (k + 1) y0 y1 y2 y3)) ∧ (∀ y0 y1 y2 y3 y4, LeO (stylusref05_Spots.j1 k y0 y1 y2 y3 y4) (stylusref05_Spots.j1 (k + 1) y0 y1 y2 y3 y4)) ∧ (∀ y0 y1 y2 y3 y4, LeO (stylusref05_Spots.l1 k y0 y1 y2 y3 y4) (stylusref05_Spots.l1 (k + 1) y0 y1 y2 y3 y4))
 | 0 => ⟨fun _ _ _ _ r h => by simp [stylusref05_Spots.l0] at h, fun _ _ _ _ _ r h => by simp [stylusref05_Spots.j1] at h, fun _ _ _ _ _ r h => by simp [stylusref05_Spots.l1] at h⟩
 | k + 1 => by
  obtain ⟨ih0, ih1, ih2⟩ := stylusref05_Spots.mono_l k
  refine ⟨?_, ?_, ?_⟩
  ·intro y0 y1 y2 y3
   unfold stylusref05_Spots.l0
   repeat' first
   | (with_reducible exact ih0 _ _ _ _)
   | (with_reducible exact ih1 _ _ _ _ _)
   | (with_reducible exact ih2 _ _ _ _ _)
   | (with_reducible exact stylusref05_Flow.mono _ _ _)
   | (with_reducible exact LeO.refl _)
   | (with_reducible exact LeO.none _)
   | (with_reducible refine LeO.ite ?_ ?_)
   | (with_reducible refine LeO.bind ?_ (fun _ => ?_))
   | exact ih0 _ _ _ _
   | exact ih1 _ _ _ _ _
   | exact ih2 _ _ _ _ _
   | exact stylusref05_Flow.mono _ _ _
   | exact LeO.none _
   | refine LeO.ite ?_ ?_
   | refine LeO.bind ?_ (fun _ => ?_)
  ·intro y0 y1 y2 y3 y4
   unfold stylusref05_Spots.j1
   repeat' first
   | (with_reducible exact ih0 _ _ _ _)
   | (with_reducible exact ih1 _ _ _ _ _)
   | (with_reducible exact ih2 _ _ _ _ _)
   | (with_reducible exact stylusref05_Flow.mono _ _ _)
   | (with_reducible exact LeO.refl _)
   | (with_reducible exact LeO.none _)
   | (with_reducible refine LeO.ite ?_ ?_)
   | (with_reducible refine LeO.bind ?_ (fun _ => ?_))
   | exact ih0 _ _ _ _
   | exact ih1 _ _ _ _ _
   | exact ih2 _ _ _ _ _
   | exact stylusref05_Flow.mono _ _ _
   | exact LeO.none _
   | refine LeO.ite ?_ ?_
   | refine LeO.bind ?_ (fun _ => ?_)
  ·intro y0 y1 y2 y3 y4
   unfold stylusref05_Spots.l1
   repeat' first
   | (with_reducible exact ih0 _ _ _ _)
   | (with_reducible exact ih1 _ _ _ _ _)
   | (with_reducible exact ih2 _ _ _ _ _)
   | (with_reducible exact stylusref05_Flow.mono _ _ _)
   | (with_reducible exact LeO.refl _)
   | (with_reducible exact LeO.none _)
   | (with_reducible refine LeO.ite ?_ ?_)
   | (with_reducible refine LeO.bind ?_ (fun _ => ?_))
   | exact ih0 _ _ _ _
   | exact ih1 _ _ _ _ _
   | exact ih2 _ _ _ _ _
   | exact stylusref05_Flow.mono _ _ _
   | exact LeO.none _
   | refine LeO.ite ?_ ?_
   | refine LeO.bind ?_ (fun _ => ?_)
theorem stylusref05_Spots.mono : ∀ a0 a1 k, LeO (stylusref05_Spots.f k a0 a1) (stylusref05_Spots.f (k + 1) a0 a1) := by
 intro a0 a1 k
 obtain ⟨ih0, ih1, ih2⟩ := stylusref05_Spots.mono_l k
 unfold stylusref05_Spots.f
 repeat' first
   | (with_reducible exact ih0 _ _ _ _)
   | (with_reducible exact ih1 _ _ _ _ _)
   | (with_reducible exact ih2 _ _ _ _ _)
   | (with_reducible exact stylusref05_Flow.mono _ _ _)
   | (with_reducible exact LeO.refl _)
   | (with_reducible exact LeO.none _)
   | (with_reducible refine LeO.ite ?_ ?_)
   | (with_reducible refine LeO.bind ?_ (fun _ => ?_))
   | exact ih0 _ _ _ _
   | exact ih1 _ _ _ _ _
   | exact ih2 _ _ _ _ _
   | exact stylusref05_Flow.mono _ _ _
   | exact LeO.none _
   | refine LeO.ite ?_ ?_
   | refine LeO.bind ?_ (fun _ => ?_)
mutual
def stylusref05_Kept.l0 : Nat → List (S184) → List (S184) → Int → Option ((List (S184)))
 | 0, _, _, _ => none
 | k + 1, x0, x3, x4 => if x4 < (x0.length : Int) then (if 0 ≤ x4 then (if ((rd_T184 x0 x4).f0) = 32 then (stylusref05_Kept.l1 k x0 x3 x4 0 x4) else (if x3.length < 5864062014805 then (stylusref05_Kept.l0 k x0 (x3 ++ [(⟨(rd_T184 x0 x4).f0, (rd_T184 x0 x4).f1, (rd_T184 x0 x4).f2⟩ : S184)]) (wrap64 (x4 + 1))) else (none))) else (none)) else (some x3)
def stylusref05_Kept.l1 : Nat → List (S184) → List (S184) → Int → Int → Int → Option ((List (S184)))
 | 0, _, _, _, _, _ => none
 | k + 1, x0, x3, x4, x5, x6 => if x6 < (x0.length : Int) then (if 0 ≤ x6 then (if ((rd_T184 x0 x6).f0) = 32 then (stylusref05_Kept.l1 k x0 x3 x4 x5 (wrap64 (x6 + 1))) else (stylusref05_Kept.l1 k x0 x3 x4 (wrap64 (x5 + 1)) (wrap64 (x6 + 1)))) else (none)) else (if (x3.length : Int) > 0 then (if 0 ≤ (wrap64 ((x3.length : Int) - 1)) then (if (wrap64 ((x3.length : Int) - 1)) < (x3.length : Int) then (if ((rd_T184 x3 (wrap64 ((x3.length : Int) - 1))).f0) = 32 then (stylusref05_Kept.l0 k x0 x3 (wrap64 (x4 + 1))) else (if x5 > 0 then (if 0 ≤ x4 then (if x4 < (x0.length : Int) then (if x3.length < 5864062014805 then (stylusref05_Kept.l0 k x0 (x3 ++ [(⟨(rd_T184 x0 x4).f0, (rd_T184 x0 x4).f1, (rd_T184 x0 x4).f2⟩ : S184)]) (wrap64 (x4 + 1))) else (none)) else (none)) else (none)) else (stylusref05_Kept.l0 k x0 x3 (wrap64 (x4 + 1))))) else (none)) else (none)) else (stylusref05_Kept.l0 k x0 x3 (wrap64 (x4 + 1))))
end
def stylusref05_Kept.f (k : Nat) (l0 : List (S184)) : Option ((List (S184))) := stylusref05_Kept.l0 k l0 ([] : List (S184)) 0
theorem stylusref05_Kept.mono_l : ∀ k, (∀ y0 y1 y2, LeO (stylusref05_Kept.l0 k y0 y1 y2) (stylusref05_Kept.l0 (k + 1) y0 y1 y2)) ∧ (∀ y0 y1 y2 y3 y4, LeO (stylusref05_Kept.l1 k y0 y1 y2 y3 y4) (stylusref05_Kept.l1 (k + 1) y0 y1 y2 y3 y4))
 | 0 => ⟨fun _ _ _ r h => by simp [stylusref05_Kept.l0] at h, fun _ _ _ _ _ r h => by simp [stylusref05_Kept.l1] at h⟩
 | k + 1 => by
  obtain ⟨ih0, ih1⟩ := stylusref05_Kept.mono_l k
  refine ⟨?_, ?_⟩
  ·intro y0 y1 y2
   unfold stylusref05_Kept.l0
   repeat' first
   | (with_reducible exact ih0 _ _ _)
   | (with_reducible exact ih1 _ _ _ _ _)
   | (with_reducible exact LeO.refl _)
   | (with_reducible exact LeO.none _)
   | (with_reducible refine LeO.ite ?_ ?_)
   | (with_reducible refine LeO.bind ?_ (fun _ => ?_))
   | exact ih0 _ _ _
   | exact ih1 _ _ _ _ _
   | exact LeO.none _
   | refine LeO.ite ?_ ?_
   | refine LeO.bind ?_ (fun _ => ?_)
  ·intro y0 y1 y2 y3 y4
   unfold stylusref05_Kept.l1
   repeat' first
   | (with_reducible exact ih0 _ _ _)
   | (with_reducible exact ih1 _ _ _ _ _)
   | (with_reducible exact LeO.refl _)
   | (with_reducible exact LeO.none _)
   | (with_reducible refine LeO.ite ?_ ?_)
   | (with_reducible refine LeO.bind ?_ (fun _ => ?_))
   | exact ih0 _ _ _
   | exact ih1 _ _ _ _ _
   | exact LeO.none _
   | refine LeO.ite ?_ ?_
   | refine LeO.bind ?_ (fun _ => ?_)
theorem stylusref05_Kept.mono : ∀ a0 k, LeO (stylusref05_Kept.f k a0) (stylusref05_Kept.f (k + 1) a0) := by
 intro a0 k
 obtain ⟨ih0, ih1⟩ := stylusref05_Kept.mono_l k
 unfold stylusref05_Kept.f
 repeat' first
   | (with_reducible exact ih0 _ _ _)
   | (with_reducible exact ih1 _ _ _ _ _)
   | (with_reducible exact LeO.refl _)
   | (with_reducible exact LeO.none _)
   | (with_reducible refine LeO.ite ?_ ?_)
   | (with_reducible refine LeO.bind ?_ (fun _ => ?_))
   | exact ih0 _ _ _
   | exact ih1 _ _ _ _ _
   | exact LeO.none _
   | refine LeO.ite ?_ ?_
   | refine LeO.bind ?_ (fun _ => ?_)
def stylusref04_in.l0 : Nat → Int → ByteArray → Int → Option (Bool)
 | 0, _, _, _ => none
 | k + 1, x0, x1, x5 => if x5 < (x1.size : Int) then (if 0 ≤ x5 then (if (bt x1 x5) = x0 then (some true) else (stylusref04_in.l0 k x0 x1 (wrap64 (x5 + 1)))) else (none)) else (some false)
def stylusref04_in.f (k : Nat) (a0 : Int) (a1 : ByteArray) : Option (Bool) := stylusref04_in.l0 k a0 a1 0
theorem stylusref04_in.mono_l : ∀ k, (∀ y0 y1 y2, LeO (stylusref04_in.l0 k y0 y1 y2) (stylusref04_in.l0 (k + 1) y0 y1 y2))
 | 0 => fun _ _ _ r h => by simp [stylusref04_in.l0] at h
 | k + 1 => by
  have ih0 := stylusref04_in.mono_l k
  ·intro y0 y1 y2
   unfold stylusref04_in.l0
   repeat' first
   | (with_reducible exact ih0 _ _ _)
   | (with_reducible exact LeO.refl _)
   | (with_reducible exact LeO.none _)
   | (with_reducible refine LeO.ite ?_ ?_)
   | (with_reducible refine LeO.bind ?_ (fun _ => ?_))
   | exact ih0 _ _ _
   | exact LeO.none _
   | refine LeO.ite ?_ ?_
   | refine LeO.bind ?_ (fun _ => ?_)
theorem stylusref04_in.mono : ∀ a0 a1 k, LeO (stylusref04_in.f k a0 a1) (stylusref04_in.f (k + 1) a0 a1) := by
 intro a0 a1 k
 have ih0 := stylusref04_in.mono_l k
 unfold stylusref04_in.f
 repeat' first
   | (with_reducible exact ih0 _ _ _)
   | (with_reducible exact LeO.refl _)
   | (with_reducible exact LeO.none _)
   | (with_reducible refine LeO.ite ?_ ?_)
   | (with_reducible refine LeO.bind ?_ (fun _ => ?_))
   | exact ih0 _ _ _
   | exact LeO.none _
   | refine LeO.ite ?_ ?_
   | refine LeO.bind ?_ (fun _ => ?_)
def stylusref04_Texts.f (k : Nat) (l0 : List (S159)) : Option (Bool) := if 0 ≤ (wrap64 ((l0.length : Int) - 1)) then (if (wrap64 ((l0.length : Int) - 1)) < (l0.length : Int) then ((stylusref04_in.f k ((rd_T159 l0 (wrap64 ((l0.length : Int) - 1))).f0) (⟨#[49, 50, 51, 112, 99, 110, 101, 115]⟩ : ByteArray)).bind fun t124 => (if t124 = true then (some true) else (if ((rd_T159 l0 (wrap64 ((l0.length : Int) - 1))).f0) = 105 then ((stylusref04_in.f k 108 ((rd_T159 l0 (wrap64 ((l0.length : Int) - 1))).f1)).bind fun t125 => (some (!t125))) else (some false)))) else (none)) else (none)
theorem stylusref04_Texts.mono : ∀ a0 k, LeO (stylusref04_Texts.f k a0) (stylusref04_Texts.f (k + 1) a0) := by
 intro a0 k
 unfold stylusref04_Texts.f
 repeat' first
   | (with_reducible exact stylusref04_in.mono _ _ _)
   | (with_reducible exact LeO.refl _)
   | (with_reducible exact LeO.none _)
   | (with_reducible refine LeO.ite ?_ ?_)
   | (with_reducible refine LeO.bind ?_ (fun _ => ?_))
   | exact stylusref04_in.mono _ _ _
   | exact LeO.none _
   | refine LeO.ite ?_ ?_
   | refine LeO.bind ?_ (fun _ => ?_)
def stylusref04_last.l0 : Nat → List (S159) → ByteArray → Int → Option (Int)
 | 0, _, _, _ => none
 | k + 1, x0, x1, x5 => if x5 > 0 then (if 0 ≤ x5 then (if x5 < (x0.length : Int) then ((stylusref04_in.f k ((rd_T159 x0 x5).f0) x1).bind fun t127 => (if t127 = true then (some x5) else (stylusref04_last.l0 k x0 x1 (wrap64 (x5 - 1))))) else (none)) else (none)) else (some (-1))
def stylusref04_last.f (k : Nat) (l0 : List (S159)) (a1 : ByteArray) : Option (Int) := stylusref04_last.l0 k l0 a1 (wrap64 ((l0.length : Int) - 1))
theorem stylusref04_last.mono_l : ∀ k, (∀ y0 y1 y2, LeO (stylusref04_last.l0 k y0 y1 y2) (stylusref04_last.l0 (k + 1) y0 y1 y2))
 | 0 => fun _ _ _ r h => by simp [stylusref04_last.l0] at h
 | k + 1 => by
  have ih0 := stylusref04_last.mono_l k
  ·intro y0 y1 y2
   unfold stylusref04_last.l0
   repeat' first
   | (with_reducible exact ih0 _ _ _)
   | (with_reducible exact stylusref04_in.mono _ _ _)
   | (with_reducible exact LeO.refl _)
   | (with_reducible exact LeO.none _)
   | (with_reducible refine LeO.ite ?_ ?_)
   | (with_reducible refine LeO.bind ?_ (fun _ => ?_))
   | exact ih0 _ _ _
   | exact stylusref04_in.mono _ _ _
   | exact LeO.none _
   | refine LeO.ite ?_ ?_
   | refine LeO.bind ?_ (fun _ => ?_)
theorem stylusref04_last.mono : ∀ a0 a1 k, LeO (stylusref04_last.f k a0 a1) (stylusref04_last.f (k + 1) a0 a1) := by
 intro a0 a1 k
 have ih0 := stylusref04_last.mono_l k
 unfold stylusref04_last.f
 repeat' first
   | (with_reducible exact ih0 _ _ _)
   | (with_reducible exact stylusref04_in.mono _ _ _)
   | (with_reducible exact LeO.refl _)
   | (with_reducible exact LeO.none _)
   | (with_reducible refine LeO.ite ?_ ?_)
   | (with_reducible refine LeO.bind ?_ (fun _ => ?_))
   | exact ih0 _ _ _
   | exact stylusref04_in.mono _ _ _
   | exact LeO.none _
   | refine LeO.ite ?_ ?_
   | refine LeO.bind ?_ (fun _ => ?_)
def stylusref04_many.l0 : Nat → List (S159) → Int → Int → Int → Option (Int)
 | 0, _, _, _, _ => none
 | k + 1, x0, x1, x5, x6 => if x6 < (x0.length : Int) then (if 0 ≤ x6 then (if ((rd_T159 x0 x6).f0) = x1 then (stylusref04_many.l0 k x0 x1 (wrap64 (x5 + 1)) (wrap64 (x6 + 1))) else (stylusref04_many.l0 k x0 x1 x5 (wrap64 (x6 + 1)))) else (none)) else (some x5)
def stylusref04_many.f (k : Nat) (l0 : List (S159)) (a1 : Int) : Option (Int) := stylusref04_many.l0 k l0 a1 0 1
theorem stylusref04_many.mono_l : ∀ k, (∀ y0 y1 y2 y3, LeO (stylusref04_many.l0 k y0 y1 y2 y3) (stylusref04_many.l0 (k + 1) y0 y1 y2 y3))
 | 0 => fun _ _ _ _ r h => by simp [stylusref04_many.l0] at h
 | k + 1 => by
  have ih0 := stylusref04_many.mono_l k
  ·intro y0 y1 y2 y3
   unfold stylusref04_many.l0
   repeat' first
   | (with_reducible exact ih0 _ _ _ _)
   | (with_reducible exact LeO.refl _)
   | (with_reducible exact LeO.none _)
   | (with_reducible refine LeO.ite ?_ ?_)
   | (with_reducible refine LeO.bind ?_ (fun _ => ?_))
   | exact ih0 _ _ _ _
   | exact LeO.none _
   | refine LeO.ite ?_ ?_
   | refine LeO.bind ?_ (fun _ => ?_)
theorem stylusref04_many.mono : ∀ a0 a1 k, LeO (stylusref04_many.f k a0 a1) (stylusref04_many.f (k + 1) a0 a1) := by
 intro a0 a1 k
 have ih0 := stylusref04_many.mono_l k
 unfold stylusref04_many.f
 repeat' first
   | (with_reducible exact ih0 _ _ _ _)
   | (with_reducible exact LeO.refl _)
   | (with_reducible exact LeO.none _)
   | (with_reducible refine LeO.ite ?_ ?_)
   | (with_reducible refine LeO.bind ?_ (fun _ => ?_))
   | exact ih0 _ _ _ _
   | exact LeO.none _
   | refine LeO.ite ?_ ?_
   | refine LeO.bind ?_ (fun _ => ?_)
mutual
def stylusref04_opens.j0 : Nat → List (S159) → Int → Bool → Int → ByteArray → Int → Int → Int → ByteArray → Option (Bool)
 | 0, _, _, _, _, _, _, _, _, _ => none
 | k + 1, x0, x1, x42, x192000, x192001, x192002, x192003, x192004, x192005 => if x42 = true then (some true) else (if x192000 = 114 then (if x1 = 99 then (some (decide ((x192001.size : Int) < 8))) else (some false)) else ((stylusref04_Texts.f k x0).bind fun t193 => (if t193 = true then ((stylusref04_in.f k x1 (⟨#[101, 115, 110]⟩ : ByteArray)).bind fun t194 => (if t194 = true then ((stylusref04_many.f k x0 x1).bind fun t195 => (stylusref04_opens.j1 k x0 x1 (decide (t195 > 0)))) else (stylusref04_opens.j1 k x0 x1 true))) else (stylusref04_opens.j1 k x0 x1 true))))
def stylusref04_opens.j1 : Nat → List (S159) → Int → Bool → Option (Bool)
 | 0, _, _, _ => none
 | k + 1, x0, x1, x67 => if x67 = true then (some false) else (if x1 = 110 then ((stylusref04_last.f k x0 (⟨#[49, 50, 51, 112, 105]⟩ : ByteArray)).bind fun t196 => ((stylusref04_many.f k x0 99).bind fun t197 => (if t197 = 0 then (if t196 > 0 then (if 0 ≤ t196 then (if t196 < (x0.length : Int) then (some (((rd_T159 x0 t196).f3) == 0)) else (none)) else (none)) else (some false)) else (some false)))) else (some true))
end
def stylusref04_opens.f (k : Nat) (l0 : List (S159)) (a1 : Int) : Option (Bool) := if 0 ≤ (wrap64 ((l0.length : Int) - 1)) then (if (wrap64 ((l0.length : Int) - 1)) < (l0.length : Int) then (if (l0.length : Int) = 1 then ((stylusref04_in.f k a1 (⟨#[49, 50, 51, 112, 108, 116, 107]⟩ : ByteArray)).bind fun t192 => (some t192)) else (if ((rd_T159 l0 (wrap64 ((l0.length : Int) - 1))).f0) = 105 then (if a1 = 108 then (stylusref04_opens.j0 k l0 a1 true ((rd_T159 l0 (wrap64 ((l0.length : Int) - 1))).f0) ((rd_T159 l0 (wrap64 ((l0.length : Int) - 1))).f1) ((rd_T159 l0 (wrap64 ((l0.length : Int) - 1))).f2) ((rd_T159 l0 (wrap64 ((l0.length : Int) - 1))).f3) ((rd_T159 l0 (wrap64 ((l0.length : Int) - 1))).f4) ((rd_T159 l0 (wrap64 ((l0.length : Int) - 1))).f5)) else (if ((rd_T159 l0 (wrap64 ((l0.length : Int) - 1))).f0) = 108 then (if a1 = 105 then (stylusref04_opens.j0 k l0 a1 true ((rd_T159 l0 (wrap64 ((l0.length : Int) - 1))).f0) ((rd_T159 l0 (wrap64 ((l0.length : Int) - 1))).f1) ((rd_T159 l0 (wrap64 ((l0.length : Int) - 1))).f2) ((rd_T159 l0 (wrap64 ((l0.length : Int) - 1))).f3) ((rd_T159 l0 (wrap64 ((l0.length : Int) - 1))).f4) ((rd_T159 l0 (wrap64 ((l0.length : Int) - 1))).f5)) else (if ((rd_T159 l0 (wrap64 ((l0.length : Int) - 1))).f0) = 116 then (stylusref04_opens.j0 k l0 a1 (a1 == 114) ((rd_T159 l0 (wrap64 ((l0.length : Int) - 1))).f0) ((rd_T159 l0 (wrap64 ((l0.length : Int) - 1))).f1) ((rd_T159 l0 (wrap64 ((l0.length : Int) - 1))).f2) ((rd_T159 l0 (wrap64 ((l0.length : Int) - 1))).f3) ((rd_T159 l0 (wrap64 ((l0.length : Int) - 1))).f4) ((rd_T159 l0 (wrap64 ((l0.length : Int) - 1))).f5)) else (stylusref04_opens.j0 k l0 a1 false ((rd_T159 l0 (wrap64 ((l0.length : Int) - 1))).f0) ((rd_T159 l0 (wrap64 ((l0.length : Int) - 1))).f1) ((rd_T159 l0 (wrap64 ((l0.length : Int) - 1))).f2) ((rd_T159 l0 (wrap64 ((l0.length : Int) - 1))).f3) ((rd_T159 l0 (wrap64 ((l0.length : Int) - 1))).f4) ((rd_T159 l0 (wrap64 ((l0.length : Int) - 1))).f5)))) else (if ((rd_T159 l0 (wrap64 ((l0.length : Int) - 1))).f0) = 116 then (stylusref04_opens.j0 k l0 a1 (a1 == 114) ((rd_T159 l0 (wrap64 ((l0.length : Int) - 1))).f0) ((rd_T159 l0 (wrap64 ((l0.length : Int) - 1))).f1) ((rd_T159 l0 (wrap64 ((l0.length : Int) - 1))).f2) ((rd_T159 l0 (wrap64 ((l0.length : Int) - 1))).f3) ((rd_T159 l0 (wrap64 ((l0.length : Int) - 1))).f4) ((rd_T159 l0 (wrap64 ((l0.length : Int) - 1))).f5)) else (stylusref04_opens.j0 k l0 a1 false ((rd_T159 l0 (wrap64 ((l0.length : Int) - 1))).f0) ((rd_T159 l0 (wrap64 ((l0.length : Int) - 1))).f1) ((rd_T159 l0 (wrap64 ((l0.length : Int) - 1))).f2) ((rd_T159 l0 (wrap64 ((l0.length : Int) - 1))).f3) ((rd_T159 l0 (wrap64 ((l0.length : Int) - 1))).f4) ((rd_T159 l0 (wrap64 ((l0.length : Int) - 1))).f5))))) else (if ((rd_T159 l0 (wrap64 ((l0.length : Int) - 1))).f0) = 108 then (if a1 = 105 then (stylusref04_opens.j0 k l0 a1 true ((rd_T159 l0 (wrap64 ((l0.length : Int) - 1))).f0) ((rd_T159 l0 (wrap64 ((l0.length : Int) - 1))).f1) ((rd_T159 l0 (wrap64 ((l0.length : Int) - 1))).f2) ((rd_T159 l0 (wrap64 ((l0.length : Int) - 1))).f3) ((rd_T159 l0 (wrap64 ((l0.length : Int) - 1))).f4) ((rd_T159 l0 (wrap64 ((l0.length : Int) - 1))).f5)) else (if ((rd_T159 l0 (wrap64 ((l0.length : Int) - 1))).f0) = 116 then (stylusref04_opens.j0 k l0 a1 (a1 == 114) ((rd_T159 l0 (wrap64 ((l0.length : Int) - 1))).f0) ((rd_T159 l0 (wrap64 ((l0.length : Int) - 1))).f1) ((rd_T159 l0 (wrap64 ((l0.length : Int) - 1))).f2) ((rd_T159 l0 (wrap64 ((l0.length : Int) - 1))).f3) ((rd_T159 l0 (wrap64 ((l0.length : Int) - 1))).f4) ((rd_T159 l0 (wrap64 ((l0.length : Int) - 1))).f5)) else (stylusref04_opens.j0 k l0 a1 false ((rd_T159 l0 (wrap64 ((l0.length : Int) - 1))).f0) ((rd_T159 l0 (wrap64 ((l0.length : Int) - 1))).f1) ((rd_T159 l0 (wrap64 ((l0.length : Int) - 1))).f2) ((rd_T159 l0 (wrap64 ((l0.length : Int) - 1))).f3) ((rd_T159 l0 (wrap64 ((l0.length : Int) - 1))).f4) ((rd_T159 l0 (wrap64 ((l0.length : Int) - 1))).f5)))) else (if ((rd_T159 l0 (wrap64 ((l0.length : Int) - 1))).f0) = 116 then (stylusref04_opens.j0 k l0 a1 (a1 == 114) ((rd_T159 l0 (wrap64 ((l0.length : Int) - 1))).f0) ((rd_T159 l0 (wrap64 ((l0.length : Int) - 1))).f1) ((rd_T159 l0 (wrap64 ((l0.length : Int) - 1))).f2) ((rd_T159 l0 (wrap64 ((l0.length : Int) - 1))).f3) ((rd_T159 l0 (wrap64 ((l0.length : Int) - 1))).f4) ((rd_T159 l0 (wrap64 ((l0.length : Int) - 1))).f5)) else (stylusref04_opens.j0 k l0 a1 false ((rd_T159 l0 (wrap64 ((l0.length : Int) - 1))).f0) ((rd_T159 l0 (wrap64 ((l0.length : Int) - 1))).f1) ((rd_T159 l0 (wrap64 ((l0.length : Int) - 1))).f2) ((rd_T159 l0 (wrap64 ((l0.length : Int) - 1))).f3) ((rd_T159 l0 (wrap64 ((l0.length : Int) - 1))).f4) ((rd_T159 l0 (wrap64 ((l0.length : Int) - 1))).f5)))))) else (none)) else (none)
theorem stylusref04_opens.mono_l : ∀ k, (∀ y0 y1 y2 y3 y4 y5 y6 y7 y8, LeO (stylusref04_opens.j0 k y0 y1 y2 y3 y4 y5 y6 y7 y8) (stylusref04_opens.j0 (k + 1) y0 y1 y2 y3 y4 y5 y6 y7 y8)) ∧ (∀ y0 y1 y2, LeO (stylusref04_opens.j1 k y0 y1 y2) (stylusref04_opens.j1 (k + 1) y0 y1 y2))
 | 0 => ⟨fun _ _ _ _ _ _ _ _ _ r h => by simp [stylusref04_opens.j0] at h, fun _ _ _ r h => by simp [stylusref04_opens.j1] at h⟩
 | k + 1 => by
  obtain ⟨ih0, ih1⟩ := stylusref04_opens.mono_l k
  refine ⟨?_, ?_⟩
  ·intro y0 y1 y2 y3 y4 y5 y6 y7 y8
   unfold stylusref04_opens.j0
   repeat' first
   | (with_reducible exact ih0 _ _ _ _ _ _ _ _ _)
   | (with_reducible exact ih1 _ _ _)
   | (with_reducible exact stylusref04_Texts.mono _ _)
   | (with_reducible exact stylusref04_in.mono _ _ _)
   | (with_reducible exact stylusref04_last.mono _ _ _)
   | (with_reducible exact stylusref04_many.mono _ _ _)
   | (with_reducible exact LeO.refl _)
   | (with_reducible exact LeO.none _)
   | (with_reducible refine LeO.ite ?_ ?_)
   | (with_reducible refine LeO.bind ?_ (fun _ => ?_))
   | exact ih0 _ _ _ _ _ _ _ _ _
   | exact ih1 _ _ _
   | exact stylusref04_Texts.mono _ _
   | exact stylusref04_in.mono _ _ _
   | exact stylusref04_last.mono _ _ _
   | exact stylusref04_many.mono _ _ _
   | exact LeO.none _
   | refine LeO.ite ?_ ?_
   | refine LeO.bind ?_ (fun _ => ?_)
  ·intro y0 y1 y2
   unfold stylusref04_opens.j1
   repeat' first
   | (with_reducible exact ih0 _ _ _ _ _ _ _ _ _)
   | (with_reducible exact ih1 _ _ _)
   | (with_reducible exact stylusref04_Texts.mono _ _)
   | (with_reducible exact stylusref04_in.mono _ _ _)
   | (with_reducible exact stylusref04_last.mono _ _ _)
   | (with_reducible exact stylusref04_many.mono _ _ _)
   | (with_reducible exact LeO.refl _)
   | (with_reducible exact LeO.none _)
   | (with_reducible refine LeO.ite ?_ ?_)
   | (with_reducible refine LeO.bind ?_ (fun _ => ?_))
   | exact ih0 _ _ _ _ _ _ _ _ _
   | exact ih1 _ _ _
   | exact stylusref04_Texts.mono _ _
   | exact stylusref04_in.mono _ _ _
   | exact stylusref04_last.mono _ _ _
   | exact stylusref04_many.mono _ _ _
   | exact LeO.none _
   | refine LeO.ite ?_ ?_
   | refine LeO.bind ?_ (fun _ => ?_)
theorem stylusref04_opens.mono : ∀ a0 a1 k, LeO (stylusref04_opens.f k a0 a1) (stylusref04_opens.f (k + 1) a0 a1) := by
 intro a0 a1 k
 obtain ⟨ih0, ih1⟩ := stylusref04_opens.mono_l k
 unfold stylusref04_opens.f
 repeat' first
   | (with_reducible exact ih0 _ _ _ _ _ _ _ _ _)
   | (with_reducible exact ih1 _ _ _)
   | (with_reducible exact stylusref04_Texts.mono _ _)
   | (with_reducible exact stylusref04_in.mono _ _ _)
   | (with_reducible exact stylusref04_last.mono _ _ _)
   | (with_reducible exact stylusref04_many.mono _ _ _)
   | (with_reducible exact LeO.refl _)
   | (with_reducible exact LeO.none _)
   | (with_reducible refine LeO.ite ?_ ?_)
   | (with_reducible refine LeO.bind ?_ (fun _ => ?_))
   | exact ih0 _ _ _ _ _ _ _ _ _
   | exact ih1 _ _ _
   | exact stylusref04_Texts.mono _ _
   | exact stylusref04_in.mono _ _ _
   | exact stylusref04_last.mono _ _ _
   | exact stylusref04_many.mono _ _ _
   | exact LeO.none _
   | refine LeO.ite ?_ ?_
   | refine LeO.bind ?_ (fun _ => ?_)
end Go.Proofs.Ythcmfjpheanphaa.Pr
namespace Go.Proofs.Ythcmfjpheanphaa.Pr
open Go.RowKit Go.Proofs.YthcmfjpheanphaaW.PrintWords
theorem wrap_s {n : Nat} (h : n ≤ 9000000) : wrap64 ((n : Int) + 1) = ((n + 1 : Nat) : Int) := by
 rw [show (n : Int) + 1 = ((n + 1 : Nat) : Int) from by omega]
 exact IntWalk.wrap64_in _ ⟨by omega, by omega⟩
def inFrom (b : Int) (s : ByteArray) : Nat → Nat → Bool
 | 0, _ => false
 | d + 1, i => if i < s.size then (if bt s i = b then true else inFrom b s d (i + 1)) else false
def inB (b : Int) (s : ByteArray) : Bool := inFrom b s s.size 0
def lastR (ks : ByteArray) (r : List S159) : Nat → Int
 | 0 => -1
 | n + 1 => if inB (rd_T159 r ((n + 1 : Nat) : Int)).f0 ks = true then ((n + 1 : Nat) : Int) else lastR ks r n
def lastP (ks : ByteArray) (r : List S159) : Int := lastR ks r (r.length - 1)
def manyR (b : Int) (r : List S159) : Nat → Nat → Nat
 | 0, _ => 0
 | d + 1, i => (if (rd_T159 r i).f0 = b then 1 else 0) + manyR b r d (i + 1)
def manyP (b : Int) (r : List S159) : Nat := manyR b r (r.length - 1) 1
def topR (r : List S159) : S159 := rd_T159 r ((r.length - 1 : Nat) : Int)
def flowB : ByteArray := ⟨#[49, 50, 51, 112, 99, 110, 101, 115]⟩
def textsR (r : List S159) : Bool := if inB (topR r).f0 flowB = true then true else if (topR r).f0 = 105 then !inB 108 (topR r).f1 else false
structure RSt where
 t : List S56
 r : List S159
def dotB : ByteArray := ⟨#[46]⟩
def kidR (b : ByteArray) (x : S159) : S159 := { x with f1 := x.f1 ++ b }
def textR (b : ByteArray) (x : S159) : S159 := { x with f5 := x.f5 ++ b }
def noteR (x : S159) : S159 := { x with f3 := x.f3 + 1 }
def colR (n : Int) (x : S159) : S159 := { x with f4 := n }
def nB : ByteArray := ⟨#[110]⟩
def flowsB : ByteArray := ⟨#[49, 50, 51, 112, 105]⟩
def byteB (k : Int) : ByteArray := ⟨#[k.toNat.toUInt8]⟩
def addText (b : ByteArray) (r : List S159) : List S159 := if 0 < lastP nB r then r.modify (lastP nB r).toNat (textR b) else r
def addNote (k : Int) (r : List S159) : List S159 := if k = 110 then r.modify (mx (lastP flowsB r) 0).toNat noteR else r
def addCols (r : List S159) : List S159 := if (topR r).f0 = 114 ∧ (rd_T159 r ((r.length - 2 : Nat) : Int)).f4 = 0 then r.modify (r.length - 2) (colR (topR r).f1.size) else r
def rstep (s : RSt) (x : S47) : Option RSt :=
 if x.f0 = 1 then
  (if textsR s.r = true then some ⟨s.t ++ [⟨46, x.f2, x.f3, 1⟩], addText x.f2 (s.r.modify (s.r.length - 1) (kidR dotB))⟩ else some s)
 else if x.f0 = 2 then some ⟨s.t ++ [⟨x.f1, ⟨#[]⟩, x.f3, 1⟩], addNote x.f1 (s.r.modify (s.r.length - 1) (kidR (byteB x.f1))) ++ [⟨x.f1, ⟨#[]⟩, s.t.length, 0, 0, ⟨#[]⟩⟩]⟩
 else if 2 ≤ s.r.length ∧ 0 ≤ (topR s.r).f2 ∧ (topR s.r).f2 < s.t.length then some ⟨s.t.modify (topR s.r).f2.toNat (sizeF (s.t.length - (topR s.r).f2)), (addCols s.r).dropLast⟩
 else none
def readP : RSt → List S47 → Option RSt
 | s, [] => some s
 | s, x :: l => (rstep s x).bind fun s' => readP s' l
def read0 : RSt := ⟨[], [z159]⟩
end Go.Proofs.Ythcmfjpheanphaa.Pr
namespace Go.Proofs.Ythcmfjpheanphaa.Pr
open Go.RowKit Go.Proofs.Ythcmfjpheanphaa.Pure Go.Proofs.YthcmfjpheanphaaW.PrintWords
def ltrB : ByteArray := ⟨#[108, 116, 114]⟩
def stepR (o : Bool) (u : RSt) (x : S47) : Int × Int :=
 if x.f0 = 1 then
  (if textsR u.r = true then (if 2000 ≤ u.t.length then (x.f3, 4) else if 0 < lastP nB u.r then (if 60 < wrap64 (((rd_T159 u.r (lastP nB u.r)).f5.size : Int) + x.f2.size) then (x.f3, 4) else (0, 0)) else (0, 0))
   else if blackP x.f2 x.f2.size 0 < x.f2.size then (wrap64 (x.f3 + blackP x.f2 x.f2.size 0), 2) else (0, 0))
 else if x.f0 = 2 then
  (if o = true then (if 32 < u.r.length ∨ (x.f1 = 108 ∧ 8 ≤ manyP 108 u.r) then (x.f3, 5) else if 2000 ≤ u.t.length then (x.f3, 4) else (0, 0)) else (x.f3, 2))
 else if u.r.length = 1 ∨ (inB (topR u.r).f0 ltrB = true ∧ (topR u.r).f1.size = 0) then (x.f3, 2)
 else if (topR u.r).f0 = 114 then (if 0 < (rd_T159 u.r ((u.r.length - 2 : Nat) : Int)).f4 then (if (rd_T159 u.r ((u.r.length - 2 : Nat) : Int)).f4 = (topR u.r).f1.size then (0, 0) else (x.f3, 2)) else (0, 0))
 else (0, 0)
end Go.Proofs.Ythcmfjpheanphaa.Pr
namespace Go.Proofs.Ythcmfjpheanphaa.Pr
open Go.RowKit Go.Maps Go.Proofs.YthcmfjpheanphaaW.PrintWords
attribute [local go_sem] Oper.semAt_some
def flowedB (c : Int) : Bool := c == 49 || (c == 50 || (c == 51 || (c == 112 || (c == 105 || (c == 99 || c == 110)))))
def clrN (t : List S56) (i : Nat) : List S56 := t.mapIdx fun k x => if k < i ∧ x.f0 = 46 then tx ⟨#[]⟩ x else x
def putF2 (t : List S56) (p : S184) (y : S56) : S56 := ⟨y.f0, y.f1 ++ byteB p.f0, if y.f1.size = 0 then wrap64 ((rd_T56 t p.f1).f2 + p.f2) else y.f2, y.f3⟩
def putO (t : List S56) (out : List S56) (p : S184) : Option (List S56) :=
 if 0 ≤ p.f1 ∧ p.f1 < (t.length : Int) ∧ (out.getD p.f1.toNat z56).f1.size ≤ 1000000000 ∧ 0 ≤ p.f0 ∧ p.f0 ≤ 255 then some (out.modify p.f1.toNat (putF2 t p)) else none
def putAll (t : List S56) : List S184 → List S56 → Option (List S56)
 | [], out => some out
 | p :: l, out => (putO t out p).bind fun o => putAll t l o
def txGo (k : Nat) (t : List S56) : Nat → Nat → List S56 → Option (List S56)
 | 0, _, out => some out
 | d + 1, i, out => if flowedB (rd_T56 t i).f0 = true then (stylusref05_Spots.f k t i).bind fun l0 => (stylusref05_Kept.f k l0).bind fun l => if l.length ≤ 100000000 then (putAll t l out).bind fun o => txGo k t d (i + 1) o else none else txGo k t d (i + 1) out
def SpAt (W : World) (B : Nat) (v : Value) (l : List S184) : Prop := ∃ inner, W.ownsRow B 184 3 v l.length inner ∧ ∀ j : Nat, j < l.length → inner[j * 3]? = some (.int .u8 (rd_T184 l j).f0) ∧ inner[j * 3 + 1]? = some (.int .i64 (rd_T184 l j).f1) ∧ inner[j * 3 + 2]? = some (.int .i64 (rd_T184 l j).f2)
theorem SpAt.fr {X : Nat → Prop} {W W' : World} {B : Nat} {v : Value} {l : List S184} (h : SpAt W B v l) (hf : Fr X W W') (hx : ∀ g, v.ownBlock = some g → ¬ X g) : SpAt W' B v l := by
 obtain ⟨inner, ho, h2⟩ := h
 exact ⟨inner, hf.own ho hx, h2⟩
theorem SpAt.cells {W : World} {B g c : Nat} {l : List S184} (h : SpAt W B (.slice (some ⟨g, 0, none⟩) l.length c) l) (j : Nat) (hj : j < l.length) :
  W.cell? ⟨g, j * 3, none⟩ = some (.int .u8 (rd_T184 l j).f0) ∧ W.cell? ⟨g, j * 3 + 1, none⟩ = some (.int .i64 (rd_T184 l j).f1) ∧ W.cell? ⟨g, j * 3 + 2, none⟩ = some (.int .i64 (rd_T184 l j).f2) := by
 obtain ⟨inner, ho, h2⟩ := h
 obtain ⟨a, b, c⟩ := h2 j hj
 exact ⟨by rw [ho.cellAt _ (by omega)]; exact a, by rw [ho.cellAt _ (by omega)]; exact b, by rw [ho.cellAt _ (by omega)]; exact c⟩
theorem out_set {W : World} {B0 go co N j i : Nat} {out : List S56} (h : W.ownsRow B0 56 4 (.slice (some ⟨go, 0, none⟩) N co) N (flat56 out)) (hN : out.length = N) (hj : j < N) (hi : i < 4) (f : S56 → S56) (u : Value) (hf : cellsN (f (out.getD j z56)) = (cellsN (out.getD j z56)).set i u) :
  (W.setCell ⟨go, j * 4 + i, none⟩ u).ownsRow B0 56 4 (.slice (some ⟨go, 0, none⟩) N co) N (flat56 (out.modify j f)) ∧ Fr (fun k => k = go) W (W.setCell ⟨go, j * 4 + i, none⟩ u) := by
 subst hN
 have ho := (h.stored (j * 4 + i) u).1
 rw [flatN_mod f i hi u out j hj hf] at ho
 exact ⟨ho, Fr.set (X := fun k => k = go) (p := ⟨go, j * 4 + i, none⟩) rfl u⟩
theorem txGo_mono (t : List S56) (k : Nat) : ∀ (d i : Nat) (out : List S56), LeO (txGo k t d i out) (txGo (k + 1) t d i out)
 | 0, _, _ => LeO.refl _
 | d + 1, i, out => by
  unfold txGo
  by_cases h : flowedB (rd_T56 t i).f0 = true
  ·rw [if_pos h, if_pos h]
   refine LeO.bind (stylusref05_Spots.mono t i k) fun l0 => LeO.bind (stylusref05_Kept.mono l0 k) fun l => ?_
   by_cases hl : l.length ≤ 100000000
   ·rw [if_pos hl, if_pos hl]
    exact LeO.bind (LeO.refl _) fun o => txGo_mono t k d (i + 1) o
   ·rw [if_neg hl, if_neg hl]
    exact LeO.refl _
  ·rw [if_neg h, if_neg h]
   exact txGo_mono t k d (i + 1) out
def stylusref05_texts.f (k : Nat) (l0 : List S56) : Option (List S56) := if l0.length ≤ 400000 then txGo k l0 l0.length 0 (clrN l0 l0.length) else none
theorem stylusref05_texts.mono : ∀ l0 k, LeO (stylusref05_texts.f k l0) (stylusref05_texts.f (k + 1) l0) := fun l0 k => by
 unfold stylusref05_texts.f
 by_cases h : l0.length ≤ 400000
 ·rw [if_pos h, if_pos h]
  exact txGo_mono l0 k _ _ _
 ·rw [if_neg h, if_neg h]
  exact LeO.refl _
end Go.Proofs.Ythcmfjpheanphaa.Pr
namespace Go.Proofs.Ythcmfjpheanphaa.Pr
open Go.RowKit Go.Proofs.YthcmfjpheanphaaW.PrintWords
def fl (t : List S56) (q : Nat) : Bool := flowedB (rd_T56 t q).f0
def flG (t : List S56) (i : Nat) : Nat → Int
 | 0 => -1
 | q + 1 => if fl t q = true ∧ i < q + sz t q then (q : Int) else flG t i q
def flow (t : List S56) (i : Nat) : Int := flG t i i
def ow (t : List S56) (i : Nat) : Int := if flow t i < 0 then 0 else flow t i
theorem flG_yes (t : List S56) (i q : Nat) (h : fl t q = true ∧ i < q + sz t q) : flG t i (q + 1) = q := if_pos h
theorem flG_no (t : List S56) (i q : Nat) (h : ¬ (fl t q = true ∧ i < q + sz t q)) : flG t i (q + 1) = flG t i q := if_neg h
theorem flG_lt (t : List S56) (i : Nat) : ∀ m : Nat, -1 ≤ flG t i m ∧ flG t i m < m ∧ (0 ≤ flG t i m → fl t (flG t i m).toNat = true ∧ i < (flG t i m).toNat + sz t (flG t i m).toNat)
 | 0 => ⟨Int.le_refl _, (by show (-1 : Int) < 0; decide), fun h => absurd h (by show ¬ (0 : Int) ≤ -1; decide)⟩
 | m + 1 => by
  unfold flG
  by_cases h : fl t m = true ∧ i < m + sz t m
  ·rw [if_pos h]
   exact ⟨by omega, by omega, fun _ => by rw [Int.toNat_natCast]; exact h⟩
  ·rw [if_neg h]
   have := flG_lt t i m
   exact ⟨this.1, by omega, this.2.2⟩
theorem flow_lt (t : List S56) (i : Nat) : -1 ≤ flow t i ∧ flow t i < i := ⟨(flG_lt t i i).1, (flG_lt t i i).2.1⟩
theorem flow_in (t : List S56) (i j : Nat) (h : flow t i = j) : fl t j = true ∧ j < i ∧ i < j + sz t j := by
 have h1 := flG_lt t i i
 have h2 := h1.2.2 (by unfold flow at h; omega)
 unfold flow at h
 rw [h, Int.toNat_natCast] at h2
 exact ⟨h2.1, by omega, h2.2⟩
theorem ow_range (t : List S56) (i : Nat) : 0 ≤ ow t i ∧ ow t i ≤ i := by
 have := flow_lt t i
 unfold ow
 split <;> omega
def ancG (t : List S56) (i : Nat) : Nat → List Nat
 | 0 => []
 | q + 1 => ancG t i q ++ (if fl t q = true ∧ i < q + sz t q then [q] else [])
def stk (t : List S56) : Nat → List Nat
 | 0 => []
 | i + 1 => ancG t i (i + 1)
def ints (l : List Nat) : List Int := l.map fun q : Nat => (q : Int)
theorem anc_mem {t : List S56} {i : Nat} : ∀ {m q : Nat}, q ∈ ancG t i m ↔ q < m ∧ fl t q = true ∧ i < q + sz t q
 | 0, q => ⟨fun h => (by cases h), fun h => absurd h.1 (Nat.not_lt_zero q)⟩
 | m + 1, q => by
  unfold ancG
  rw [List.mem_append, anc_mem]
  constructor
  ·rintro (h | h)
   ·exact ⟨by omega, h.2⟩
   ·split at h
    ·rename_i hc
     obtain rfl := List.mem_singleton.1 h
     exact ⟨by omega, hc⟩
    ·cases h
  ·rintro ⟨h1, h2⟩
   rcases Nat.lt_or_ge q m with h3 | h3
   ·exact .inl ⟨h3, h2⟩
   ·obtain rfl : q = m := by omega
    exact .inr (by rw [if_pos h2]; simp)
theorem anc_last (t : List S56) (i : Nat) : ∀ m : Nat, (flG t i m = -1 ∧ ancG t i m = []) ∨ ∃ (q : Nat) (D : List Nat), flG t i m = q ∧ ancG t i m = D ++ [q]
 | 0 => .inl ⟨rfl, rfl⟩
 | m + 1 => by
  unfold flG ancG
  by_cases h : fl t m = true ∧ i < m + sz t m
  ·rw [if_pos h, if_pos h]
   exact .inr ⟨m, _, rfl, rfl⟩
  ·rw [if_neg h, if_neg h, List.append_nil]
   exact anc_last t i m
theorem anc_sorted (t : List S56) (i : Nat) : ∀ m : Nat, (ancG t i m).Pairwise (· < ·)
 | 0 => List.Pairwise.nil
 | m + 1 => by
  unfold ancG
  rw [List.pairwise_append]
  refine ⟨anc_sorted t i m, by split <;> simp, fun a ha b hb => ?_⟩
  have h1 := (anc_mem.1 ha).1
  split at hb
  ·obtain rfl := List.mem_singleton.1 hb
   exact h1
  ·cases hb
theorem stk_ends (t : List S56) (hN : Nst t) : ∀ i : Nat, i ≤ t.length → (stk t i).Pairwise fun a b => a < b ∧ b + sz t b ≤ a + sz t a
 | 0, _ => List.Pairwise.nil
 | i + 1, hi => by
  refine (anc_sorted t i (i + 1)).imp_of_mem fun {a b} ha hb hab => ?_
  have h1 := anc_mem.1 ha
  have h2 := anc_mem.1 hb
  exact ⟨hab, hN.nest a b (by omega) hab (by omega)⟩
theorem stk_filter (t : List S56) (hN : Nst t) : ∀ i : Nat, i ≤ t.length → (stk t i).filter (fun q => decide (i < q + sz t q)) = ancG t i i
 | 0, _ => rfl
 | i + 1, hi => by
  show (ancG t i (i + 1)).filter _ = ancG t (i + 1) (i + 1)
  have key : ∀ m : Nat, (ancG t i m).filter (fun q => decide (i + 1 < q + sz t q)) = ancG t (i + 1) m := fun m => by
   induction m with
   | zero => rfl
   | succ m ih =>
    unfold ancG
    rw [List.filter_append, ih]
    congr 1
    by_cases h1 : fl t m = true ∧ i + 1 < m + sz t m
    ·rw [if_pos h1, if_pos ⟨h1.1, by omega⟩]
     simp [h1.2]
    ·rw [if_neg h1]
     by_cases h2 : fl t m = true ∧ i < m + sz t m
     ·rw [if_pos h2]
      simp
      exact Nat.le_of_not_lt fun h => h1 ⟨h2.1, h⟩
     ·rw [if_neg h2]; rfl
  exact key (i + 1)
theorem ints_last (D : List Nat) (q : Nat) : rd (ints (D ++ [q])) (D.length : Int) = q := by
 unfold rd ints
 rw [Int.toNat_natCast, List.getD_eq_getElem?_getD, List.map_append, List.getElem?_append_right (by simp), List.length_map, Nat.sub_self]
 rfl
theorem ints_len (l : List Nat) : (ints l).length = l.length := by simp [ints]
theorem filter_all {α : Type} (p : α → Bool) : ∀ l : List α, (∀ x ∈ l, p x = true) → l.filter p = l := fun l h => List.filter_eq_self.2 h
theorem own_pop (t : List S56) (hN : Nst t) (hl : t.length ≤ 400000) (O : List Int) (i : Nat) (n : Int) (R : List Int) (K : Nat) (hR : ∀ k, K ≤ k → norm_owners.j2 k t O (ints ((ancG t i i))) i n i = some R) :
  ∀ (d : Nat) (S : List Nat) (k : Nat), S.length ≤ d → S.filter (fun q => decide (i < q + sz t q)) = ancG t i i → S.Pairwise (fun a b => a < b ∧ b + sz t b ≤ a + sz t a) → (∀ q ∈ S, q < t.length) → S.length ≤ t.length → K + d + 1 ≤ k → norm_owners.l1 k t O (ints S) i n i = some R
 | 0, S, k, hd, hf, hp, hm, hs, hk => by
  obtain ⟨k, rfl⟩ : ∃ j, k = j + 1 := ⟨k - 1, by omega⟩
  obtain rfl : S = [] := List.length_eq_zero_iff.1 (by omega)
  rw [norm_owners.l1]
  refine (if_neg (by simp [ints])).trans ?_
  rw [show ([] : List Nat) = ancG t i i from hf]
  exact hR k (by omega)
 | d + 1, S, k, hd, hf, hp, hm, hs, hk => by
  obtain ⟨k, rfl⟩ : ∃ j, k = j + 1 := ⟨k - 1, by omega⟩
  rcases List.eq_nil_or_concat S with rfl | ⟨D, q, rfl⟩
  ·rw [norm_owners.l1]
   refine (if_neg (by simp [ints])).trans ?_
   rw [show ([] : List Nat) = ancG t i i from hf]
   exact hR k (by omega)
  ·rw [List.concat_eq_append] at *
   have hlen : (ints (D ++ [q])).length = D.length + 1 := by simp [ints]
   have hqt := hm q (by simp)
   have hlim := hN.lim q hqt
   have hpos := hN.pos q hqt
   have hDl : D.length + 1 ≤ t.length := by simpa using hs
   have w : ∀ _ : Unit, wrap64 (((ints (D ++ [q])).length : Int) - 1) = (D.length : Int) := fun _ => by
    rw [hlen, show ((D.length + 1 : Nat) : Int) - 1 = (D.length : Int) from by omega]
    exact wrap_nat (by omega)
   have w2 : ∀ _ : Unit, wrap64 ((q : Int) + (rd_T56 t (q : Int)).f3) = ((q + sz t q : Nat) : Int) := fun _ => by
    rw [show (q : Int) + (rd_T56 t (q : Int)).f3 = ((q + sz t q : Nat) : Int) from by unfold sz; omega]
    exact wrap_nat (by omega)
   rw [norm_owners.l1]
   refine (if_pos (by rw [hlen]; omega)).trans ?_
   rw [w (), ints_last, w2 ()]
   refine (if_pos (by omega)).trans ?_
   refine (if_pos (by rw [hlen]; omega)).trans ?_
   refine (if_pos (by omega)).trans ?_
   refine (if_pos (by omega)).trans ?_
   by_cases h : q + sz t q ≤ i
   ·refine (if_pos (by omega)).trans ?_
    refine (if_pos (by rw [hlen]; omega)).trans ?_
    have ht : (ints (D ++ [q])).take (D.length : Int).toNat = ints D := by
     unfold ints
     rw [Int.toNat_natCast, List.map_append, List.take_left' (by simp)]
    rw [ht]
    rw [List.filter_append, List.filter_cons_of_neg (by simp; omega), List.filter_nil, List.append_nil] at hf
    rw [List.pairwise_append] at hp
    exact own_pop t hN hl O i n R K hR d D k (by simp at hd; omega) hf hp.1 (fun x hx => hm x (by simp [hx])) (by omega) (by omega)
   ·refine (if_neg (by omega)).trans ?_
    rw [filter_all _ _ (fun x hx => by
     have : q + sz t q ≤ x + sz t x := by
      rcases List.mem_append.1 hx with h1 | h1
      ·rw [List.pairwise_append] at hp
       exact (hp.2.2 x h1 q (by simp)).2
      ·obtain rfl := List.mem_singleton.1 h1
       exact Nat.le_refl _
     simp
     omega)] at hf
    rw [hf]
    exact hR k (by omega)
def owL (t : List S56) (i : Nat) : List Int := (List.range i).map (ow t) ++ List.replicate (t.length - i) 0
theorem owL_len (t : List S56) (i : Nat) (h : i ≤ t.length) : (owL t i).length = t.length := by
 simp [owL]
 omega
theorem owL_set (t : List S56) (i : Nat) (h : i < t.length) : (owL t i).set i (ow t i) = owL t (i + 1) := by
 unfold owL
 rw [List.set_append_right _ _ (by simp), List.length_map, List.length_range, Nat.sub_self, List.range_succ, List.map_append, show t.length - i = (t.length - (i + 1)) + 1 from by omega, List.replicate_succ, List.set_cons_zero]
 simp
theorem owL_zero (t : List S56) (i : Nat) (h : i < t.length) (h0 : ow t i = 0) : owL t i = owL t (i + 1) := by
 rw [← owL_set t i h, h0]
 unfold owL
 rw [List.set_append_right _ _ (by simp), List.length_map, List.length_range, Nat.sub_self, show t.length - i = (t.length - (i + 1)) + 1 from by omega, List.replicate_succ, List.set_cons_zero]
theorem index_flow : ∀ n : Fin 256, (0 ≤ indexB ⟨#[49, 50, 51, 112, 105, 99, 110]⟩ (n.val : Int)) ↔ flowedB (n.val : Int) = true := by decide +kernel
theorem index_flowed (c : Int) (h0 : 0 ≤ c) (h1 : c ≤ 255) : indexB ⟨#[49, 50, 51, 112, 105, 99, 110]⟩ c ≥ 0 ↔ flowedB c = true := by
 have := index_flow ⟨c.toNat, by omega⟩
 simpa only [Int.toNat_of_nonneg h0] using this
theorem own_go (t : List S56) (hN : Nst t) (hl : t.length ≤ 400000) (hc : ∀ i, i < t.length → 0 ≤ (rd_T56 t i).f0 ∧ (rd_T56 t i).f0 ≤ 255) :
  ∀ (d i k : Nat), d + i = t.length → d * (t.length + 5) + 5 ≤ k → norm_owners.l0 k t (owL t i) (ints (stk t i)) (t.length : Int) (i : Int) = some (owL t t.length)
 | 0, i, k, hi, hk => by
  obtain ⟨k, rfl⟩ : ∃ j, k = j + 1 := ⟨k - 1, by omega⟩
  obtain rfl : i = t.length := by omega
  rw [norm_owners.l0]
  exact if_neg (by omega)
 | d + 1, i, k, hi, hk => by
  rw [Nat.succ_mul] at hk
  obtain ⟨k, rfl⟩ : ∃ j, k = j + 1 := ⟨k - 1, by omega⟩
  have hsm : ∀ q ∈ stk t i, q < i := fun q hq => by
   cases i with
   | zero => cases hq
   | succ i => exact (anc_mem.1 hq).1
  have hslen : ∀ (m : Nat), (ancG t i m).length ≤ m := fun m => by
   induction m with
   | zero => exact Nat.le_refl _
   | succ m ih =>
    unfold ancG
    rw [List.length_append]
    split <;> simp <;> omega
  have hsl : (stk t i).length ≤ i := by
   cases i with
   | zero => exact Nat.le_refl _
   | succ i =>
    have : ∀ (m : Nat), (ancG t i m).length ≤ m := fun m => by
     induction m with
     | zero => exact Nat.le_refl _
     | succ m ih =>
      unfold ancG
      rw [List.length_append]
      split <;> simp <;> omega
    exact this (i + 1)
  rw [norm_owners.l0]
  refine (if_pos (by omega)).trans ?_
  have ih := own_go t hN hl hc d (i + 1)
  obtain ⟨hc0, hc1⟩ := hc i (by omega)
  have w : ∀ _ : Unit, wrap64 ((i : Int) + 1) = ((i + 1 : Nat) : Int) := fun _ => by
   rw [show (i : Int) + 1 = ((i + 1 : Nat) : Int) from by omega]
   exact wrap_nat (by omega)
  have hpos : 1 ≤ sz t i := by have := hN.pos i (by omega); unfold sz; omega
  have hst : stk t (i + 1) = ancG t i i ++ (if fl t i = true then [i] else []) := by
   show ancG t i (i + 1) = _
   conv => lhs; unfold ancG
   congr 1
   by_cases h : fl t i = true
   ·rw [if_pos h, if_pos ⟨h, by omega⟩]
   ·rw [if_neg h, if_neg (fun x => h x.1)]
  refine own_pop t hN hl (owL t i) i t.length _ (d * (t.length + 5) + 7) (fun k hk => ?_) (stk t i).length (stk t i) k (Nat.le_refl _) (stk_filter t hN i (by omega)) (stk_ends t hN i (by omega)) (fun q hq => by have := hsm q hq; omega) (by omega) (by omega)
  obtain ⟨k, rfl⟩ : ∃ j, k = j + 1 := ⟨k - 1, by omega⟩
  have push : (∀ _ : Unit, (ints (ancG t i i)).length < 17592186044416) := fun _ => by
   rw [ints_len]
   exact Nat.lt_of_le_of_lt (Nat.le_trans (hslen i) (show i ≤ 400000 by omega)) (by decide)
  have fin : (if indexB ⟨#[49, 50, 51, 112, 105, 99, 110]⟩ (rd_T56 t i).f0 ≥ 0 then (if (ints (ancG t i i)).length < 17592186044416 then norm_owners.l0 k t (owL t (i + 1)) (ints (ancG t i i) ++ [(i : Int)]) t.length (wrap64 ((i : Int) + 1)) else none) else norm_owners.l0 k t (owL t (i + 1)) (ints (ancG t i i)) t.length (wrap64 ((i : Int) + 1))) = some (owL t t.length) := by
   rw [w ()]
   have ihk := ih k (by omega) (by omega)
   rw [hst] at ihk
   by_cases h : fl t i = true
   ·refine (if_pos ((index_flowed _ hc0 hc1).2 h)).trans ?_
    refine (if_pos (push ())).trans ?_
    rw [if_pos h] at ihk
    have e : ints (ancG t i i ++ [i]) = ints (ancG t i i) ++ [(i : Int)] := by simp [ints]
    rw [e] at ihk
    exact ihk
   ·refine (if_neg (fun x => h ((index_flowed _ hc0 hc1).1 x))).trans ?_
    rw [if_neg h, List.append_nil] at ihk
    exact ihk
  rw [norm_owners.j2]
  have hfl := flow_lt t i
  rcases anc_last t i i with ⟨h1, h2⟩ | ⟨q, D, h1, h2⟩
  ·have h0 : ow t i = 0 := by
    unfold ow flow
    rw [h1]
    rfl
   refine (if_neg (by rw [h2]; simp [ints])).trans ?_
   refine (if_pos (by omega)).trans ?_
   refine (if_pos (by omega)).trans ?_
   refine (Option.bind_some _ _).trans ?_
   rw [owL_zero t i (by omega) h0]
   exact fin
  ·have hw : ow t i = q := by
    unfold ow flow
    rw [h1]
    exact if_neg (by omega)
   have hlen : (ints (ancG t i i)).length = D.length + 1 := by rw [h2]; simp [ints]
   have hDl : D.length + 1 ≤ i := by have := hslen i; rw [h2] at this; simpa using this
   have w3 : ∀ _ : Unit, wrap64 (((ints (ancG t i i)).length : Int) - 1) = (D.length : Int) := fun _ => by
    rw [hlen, show ((D.length + 1 : Nat) : Int) - 1 = (D.length : Int) from by omega]
    exact wrap_nat (by omega)
   have hr : rd (ints (ancG t i i)) (D.length : Int) = q := by rw [h2]; exact ints_last D q
   refine (if_pos (by rw [hlen]; omega)).trans ?_
   rw [w3 (), hr]
   refine (if_pos (by omega)).trans ?_
   refine (if_pos (by rw [hlen]; omega)).trans ?_
   refine (if_pos (by omega)).trans ?_
   refine (if_pos (by rw [owL_len t i (by omega)]; omega)).trans ?_
   refine (Option.bind_some _ _).trans ?_
   rw [Int.toNat_natCast, ← hw, owL_set t i (by omega)]
   refine (if_pos (by omega)).trans ?_
   refine (Option.bind_some _ _).trans ?_
   exact fin
theorem owners_f (t : List S56) (hN : Nst t) (hl : t.length ≤ 400000) (hc : ∀ i, i < t.length → 0 ≤ (rd_T56 t i).f0 ∧ (rd_T56 t i).f0 ≤ 255) (k : Nat) (hk : t.length * (t.length + 5) + 5 ≤ k) : norm_owners.f k t = some ((List.range t.length).map (ow t)) := by
 unfold norm_owners.f
 refine (if_pos (by omega)).trans ?_
 refine (if_pos ?_).trans ?_
 ·rw [Int.toNat_natCast]
  exact Nat.le_trans hl (by decide)
 ·have := own_go t hN hl hc t.length 0 k (by omega) hk
  have e1 : owL t 0 = List.replicate (t.length : Int).toNat 0 := by simp [owL]
  have e2 : owL t t.length = (List.range t.length).map (ow t) := by simp [owL]
  rw [e1, e2] at this
  exact this
theorem rd_ow (t : List S56) (i : Nat) (hi : i < t.length) : rd ((List.range t.length).map (ow t)) (i : Int) = ow t i := by
 unfold rd
 rw [Int.toNat_natCast, List.getD_eq_getElem?_getD, List.getElem?_map, List.getElem?_range hi]
 rfl
theorem white_32 (c : Int) (h : whiteP c = false) : c ≠ 32 := by
 rintro rfl
 exact absurd h (by decide)
def kp : Int → List S184 → List S184
 | _, [] => []
 | c, p :: l => if p.f0 = 32 then (if c = 0 ∨ c = 32 then kp c l else p :: kp 32 l) else p :: kp p.f0 l
def sayK (c : Int) (L : List S184) : Int := match L.getLast? with | some p => p.f0 | none => c
theorem sayK_cons (c : Int) (p : S184) : ∀ L : List S184, sayK c (p :: L) = sayK p.f0 L
 | [] => rfl
 | q :: L => by
  unfold sayK
  rw [List.getLast?_cons_cons]
  cases h : (q :: L).getLast? with
  | none => simp at h
  | some x => rfl
theorem kp_app : ∀ (l m : List S184) (c : Int), kp c (l ++ m) = kp c l ++ kp (sayK c (kp c l)) m
 | [], m, c => rfl
 | p :: l, m, c => by
  rw [List.cons_append]
  simp only [kp]
  by_cases h : p.f0 = 32
  ·rw [if_pos h, if_pos h]
   by_cases h2 : c = 0 ∨ c = 32
   ·rw [if_pos h2, if_pos h2]
    exact kp_app l m c
   ·rw [if_neg h2, if_neg h2, kp_app l m 32, sayK_cons, h, List.cons_append]
  ·rw [if_neg h, if_neg h, kp_app l m p.f0, sayK_cons, List.cons_append]
def spB (s : ByteArray) (i : Nat) : Nat → Nat → List S184
 | 0, _ => []
 | d + 1, k => if k < s.size then (if whiteP (bt s k) = true then (if k = 0 ∨ whiteP (bt s ((k - 1 : Nat) : Int)) = false then ⟨32, i, k⟩ :: spB s i d (k + 1) else spB s i d (k + 1)) else ⟨bt s k, i, k⟩ :: spB s i d (k + 1)) else []
def spT (t : List S56) (i : Nat) : List S184 := spB (rd_T56 t i).f1 i (rd_T56 t i).f1.size 0
def inF (t : List S56) (j i : Nat) : Bool := isT t i && decide (flow t i = j)
def spG (t : List S56) (j : Nat) : Nat → Nat → List S184
 | 0, _ => []
 | d + 1, i => (if inF t j i = true then spT t i else []) ++ spG t j d (i + 1)
theorem spG_add (t : List S56) (j : Nat) : ∀ d e i, spG t j (d + e) i = spG t j d i ++ spG t j e (i + d)
 | 0, e, i => by rw [Nat.zero_add]; rfl
 | d + 1, e, i => by
  rw [show d + 1 + e = (d + e) + 1 from by omega]
  simp only [spG]
  rw [spG_add t j d e (i + 1), List.append_assoc, show i + 1 + d = i + (d + 1) from by omega]
theorem inF_in {t : List S56} {j i : Nat} (h : inF t j i = true) : isT t i = true ∧ flow t i = j ∧ j < i ∧ i < j + sz t j := by
 unfold inF at h
 rw [Bool.and_eq_true, decide_eq_true_eq] at h
 exact ⟨h.1, h.2, (flow_in t i j h.2).2⟩
def tagL (i : Nat) (L : List (Nat × Int)) : List S184 := L.map fun x => ⟨x.2, i, x.1⟩
theorem tagL_cons (i : Nat) (x : Nat × Int) (L : List (Nat × Int)) : tagL i (x :: L) = ⟨x.2, i, x.1⟩ :: tagL i L := rfl
theorem kpB_sp (s : ByteArray) (i : Nat) : ∀ (d k : Nat) (c : Int), (0 < k → whiteP (bt s ((k - 1 : Nat) : Int)) = true → c = 0 ∨ c = 32) → kp c (spB s i d k) = tagL i (kpB s d k c)
 | 0, k, c, _ => rfl
 | d + 1, k, c, h => by
  unfold spB kpB
  by_cases hk : k < s.size
  ·rw [if_pos hk, if_pos hk]
   by_cases hw : whiteP (bt s k) = true
   ·rw [if_pos hw, if_pos hw]
    by_cases hf : k = 0 ∨ whiteP (bt s ((k - 1 : Nat) : Int)) = false
    ·rw [if_pos hf]
     simp only [kp]
     rw [if_pos trivial]
     by_cases hc : c = 0 ∨ c = 32
     ·rw [if_pos hc, if_pos hc]
      exact kpB_sp s i d (k + 1) c fun _ _ => hc
     ·rw [if_neg hc, if_neg hc, tagL_cons, kpB_sp s i d (k + 1) 32 fun _ _ => Or.inr rfl]
    ·rw [if_neg hf]
     have hk0 : 0 < k := Nat.pos_of_ne_zero fun h => hf (Or.inl h)
     have hw2 : whiteP (bt s ((k - 1 : Nat) : Int)) = true := by
      cases hq : whiteP (bt s ((k - 1 : Nat) : Int)) with
      | true => rfl
      | false => exact absurd (Or.inr hq) hf
     have hc := h hk0 hw2
     rw [if_pos hc]
     exact kpB_sp s i d (k + 1) c fun _ _ => hc
   ·rw [if_neg hw, if_neg hw]
    have h32 := white_32 _ (by simpa using hw)
    simp only [kp]
    rw [if_neg h32, tagL_cons, kpB_sp s i d (k + 1) (bt s k) fun _ h2 => absurd h2 hw]
  ·rw [if_neg hk, if_neg hk]
   rfl
def Wk (t : List S56) (j i : Nat) : List S184 := kp 0 (spG t j i 0)
def fo (t : List S56) (i : Nat) : Nat := (flow t i).toNat
def Lk (t : List S56) (i : Nat) : List (Nat × Int) := kpB (rd_T56 t i).f1 (rd_T56 t i).f1.size 0 (sayK 0 (Wk t (fo t i) i))
theorem fo_in {t : List S56} {j i : Nat} (h : inF t j i = true) : fo t i = j := by
 have := (inF_in h).2.1
 unfold fo
 omega
theorem Wk_succ (t : List S56) (j i : Nat) : Wk t j (i + 1) = Wk t j i ++ (if inF t j i = true then tagL i (Lk t i) else []) := by
 unfold Wk
 rw [spG_add t j i 1 0, kp_app, Nat.zero_add]
 congr 1
 simp only [spG]
 rw [List.append_nil]
 by_cases h : inF t j i = true
 ·rw [if_pos h, if_pos h]
  unfold Lk spT
  rw [fo_in h]
  exact kpB_sp _ _ _ 0 _ fun h0 => absurd h0 (Nat.lt_irrefl 0)
 ·rw [if_neg h, if_neg h]
  rfl
theorem tagL_f1 {i : Nat} {L : List (Nat × Int)} {p : S184} (h : p ∈ tagL i L) : p.f1 = i := by
 unfold tagL at h
 obtain ⟨x, _, rfl⟩ := List.mem_map.1 h
 rfl
theorem Wk_mem (t : List S56) (j : Nat) : ∀ (i : Nat) (p : S184), p ∈ Wk t j i → ∃ q : Nat, p.f1 = q ∧ q < i ∧ inF t j q = true
 | 0, p, h => by cases h
 | i + 1, p, h => by
  rw [Wk_succ] at h
  rcases List.mem_append.1 h with h | h
  ·obtain ⟨q, h1, h2, h3⟩ := Wk_mem t j i p h
   exact ⟨q, h1, by omega, h3⟩
  ·split at h
   ·rename_i hf
    exact ⟨i, tagL_f1 h, by omega, hf⟩
   ·cases h
theorem Wk_split (t : List S56) (j x : Nat) (hx : inF t j x = true) : ∀ (d : Nat), ∃ B, Wk t j (x + 1 + d) = Wk t j x ++ tagL x (Lk t x) ++ B ∧ ∀ p ∈ B, ∃ q : Nat, p.f1 = q ∧ x < q
 | 0 => ⟨[], by rw [Nat.add_zero, Wk_succ, if_pos hx, List.append_nil], by intro p hp; cases hp⟩
 | d + 1 => by
  obtain ⟨B, h1, h2⟩ := Wk_split t j x hx d
  refine ⟨B ++ (if inF t j (x + 1 + d) = true then tagL (x + 1 + d) (Lk t (x + 1 + d)) else []), ?_, fun p hp => ?_⟩
  ·rw [show x + 1 + (d + 1) = (x + 1 + d) + 1 from by omega, Wk_succ, h1, List.append_assoc]
  ·rcases List.mem_append.1 hp with h | h
   ·exact h2 p h
   ·split at h
    ·exact ⟨x + 1 + d, tagL_f1 h, by omega⟩
    ·cases h
def endsB (t : List S56) (i : Nat) : Bool := match (Wk t (fo t i) t.length).getLast? with | some p => decide (p.f0 = 32) && decide (p.f1 = i) | none => false
def Mk (t : List S56) (i : Nat) : List (Nat × Int) := if endsB t i = true then (Lk t i).dropLast else Lk t i
theorem strN_size (xs : List Int) : (strOfNums xs).size = xs.length := by
 simp [strOfNums, ByteArray.size]
theorem strN_app (A B : List Int) : strOfNums (A ++ B) = strOfNums A ++ strOfNums B := by
 refine ByteArray.ext ?_
 simp [strOfNums, ByteArray.data_append]
def hdF2 (z a : Int) : List (Nat × Int) → Int
 | [] => z
 | q :: _ => wrap64 (a + q.1)
theorem rd_get (t : List S56) (i : Nat) (h : i < t.length) : rd_T56 t (i : Int) = t[i] := by
 unfold rd_T56
 rw [Int.toNat_natCast, List.getD_eq_getElem?_getD, List.getElem?_eq_getElem h]
 rfl
theorem Mk_len (t : List S56) (i : Nat) : (Mk t i).length ≤ (rd_T56 t i).f1.size := by
 have := kpB_len (rd_T56 t i).f1 (rd_T56 t i).f1.size 0 (sayK 0 (Wk t (fo t i) i))
 unfold Mk
 split
 ·rw [List.length_dropLast]; unfold Lk; omega
 ·exact this
structure Txt (t : List S56) : Prop where
 nst : Nst t
 len : t.length ≤ 3000
 size : ∀ i, i < t.length → (rd_T56 t i).f1.size ≤ 10000
 kind : ∀ i, i < t.length → 0 ≤ (rd_T56 t i).f0 ∧ (rd_T56 t i).f0 ≤ 255
 nul : ∀ q, q < t.length → isT t q = true → ∀ k : Nat, k < (rd_T56 t q).f1.size → bt (rd_T56 t q).f1 k ≠ 0
 home : ∀ q, q < t.length → isT t q = true → 0 ≤ flow t q
theorem isT_rd {t : List S56} {i : Nat} (hi : i < t.length) : isT t i = true ↔ t[i].f0 = 46 := by
 unfold isT
 rw [rd_get t i hi]
 exact beq_iff_eq
end Go.Proofs.Ythcmfjpheanphaa.Pr
