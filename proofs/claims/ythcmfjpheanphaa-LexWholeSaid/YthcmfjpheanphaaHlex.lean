/- lex.Of, walked by hand. -/
import Derived.Test.YthcmfjpheanphaaHlexd
import Derived.Test.YthcmfjpheanphaaHruns2
import Derived.Maps.AppendAt
namespace Go.Proofs.Ythcmfjpheanphaa.Pr
set_option linter.unusedVariables false
set_option linter.unusedSimpArgs false
open Go.RowKit Go.Shelf Go.Proofs.YthcmfjpheanphaaW.PrintWords
attribute [local go_sem] Oper.semAt_some

/-- what is read, as its cells -/
def flat47 (xs : List S47) : List Value := xs.flatMap fun x => [.int .i64 x.f0, .int .u8 x.f1, .string x.f2, .int .i64 x.f3]
theorem flat47_length (xs : List S47) : (flat47 xs).length = xs.length * 4 := by
  induction xs with
  | nil => rfl
  | cons x xs ih => simp [flat47] at ih ⊢; omega
theorem flat47_snoc (xs : List S47) (x : S47) : flat47 (xs ++ [x]) = flat47 xs ++ [.int .i64 x.f0, .int .u8 x.f1, .string x.f2, .int .i64 x.f3] := by simp [flat47]
theorem flat47_at (xs : List S47) : ∀ (j : Nat) (p : S47), xs[j]? = some p → ((flat47 xs).drop (j * 4)).take 4 = [.int .i64 p.f0, .int .u8 p.f1, .string p.f2, .int .i64 p.f3] := by
  induction xs with
  | nil => intro j p h; simp at h
  | cons x xs ih =>
    intro j p h
    cases j with
    | zero => simp at h; subst h; simp [flat47]
    | succ j =>
      have := ih j p (by simpa using h)
      rw [Nat.succ_mul]
      simp only [flat47, List.flatMap_cons] at this ⊢
      rw [show ∀ l : List Value, (([.int .i64 x.f0, .int .u8 x.f1, .string x.f2, .int .i64 x.f3] : List Value) ++ l).drop (j * 4 + 4) = l.drop (j * 4) from fun l => rfl]
      exact this
theorem own_R47 {w : World} {base : Nat} {v : Value} {xs : List S47} (h : w.ownsRow base 47 4 v xs.length (flat47 xs)) (b' : Nat) (hb : b' ≤ base) : Kd.R k47 47 w b' (fun _ => True) v xs := by
  refine Kd.R_lower (base := base) ⟨fun _ _ => trivial, flat47 xs, h, flat47_length xs, fun j p hp => ?_⟩ hb
  have := flat47_at xs j p hp
  show k47.M _ _ _ _ (((flat47 xs).drop (j * 4)).take 4)
  rw [this]
  exact k47_mkM _ _ _ _
theorem info47h : (Try.prog.info? 47).map (fun i => (i.zero, i.size, i.bytes)) = some (some (.agg #[(.int .i64 0), (.int .u8 0), (.string ⟨#[]⟩), (.int .i64 0)]), 4, 40) := by kernel_rfl

/-- what is read, as lexes -/
def lexes (pre : List (Nat × Spot)) : List S47 := pre.map (·.2.l)
def lastAt (pre : List (Nat × Spot)) : Int := match pre.getLast? with | some x => x.1 | none => 0
def lastE (pre : List (Nat × Spot)) : Int := match pre.getLast? with | some x => x.2.e | none => 0
/-- lex.Of's answer -/
def lexP (s : ByteArray) : List S47 × Int × Int :=
  if 8192 < s.size then ([], 0, 4)
  else if lastE (allL s s.size 0) = 0 then (lexes (allL s s.size 0), 0, 0) else ([], lastAt (allL s s.size 0), lastE (allL s s.size 0))

theorem lastE_snoc (pre : List (Nat × Spot)) (x : Nat × Spot) : lastE (pre ++ [x]) = x.2.e := by simp [lastE]
theorem lastAt_snoc (pre : List (Nat × Spot)) (x : Nat × Spot) : lastAt (pre ++ [x]) = x.1 := by simp [lastAt]
theorem lexes_snoc (pre : List (Nat × Spot)) (x : Nat × Spot) : lexes (pre ++ [x]) = lexes pre ++ [x.2.l] := by simp [lexes]
theorem lexes_length (pre : List (Nat × Spot)) : (lexes pre).length = pre.length := by simp [lexes]
/-- a part that ends in an error is the whole -/
theorem allL_whole (s : ByteArray) : ∀ (d k : Nat) (pre : List (Nat × Spot)), pre <+: allL s d k → lastE pre ≠ 0 → pre = allL s d k
  | 0, k, pre, h, he => by
    simp only [allL] at h ⊢
    exact List.prefix_nil.1 h
  | d + 1, k, pre, h, he => by
    simp only [allL] at h ⊢
    split at h
    · rename_i hk
      rw [if_pos hk]
      cases pre with
      | nil => simp [lastE] at he
      | cons y pre =>
        rw [List.cons_prefix_cons] at h
        obtain ⟨rfl, h⟩ := h
        cases pre with
        | nil =>
          have : (nextP (s.extract k s.size) k).e ≠ 0 := by simpa [lastE] using he
          rw [if_neg this]
        | cons z pre =>
          split at h
          · rename_i h0
            rw [if_pos h0]
            congr 1
            exact allL_whole s d _ (z :: pre) h (by simpa [lastE] using he)
          · simp at h
    · have := List.prefix_nil.1 h
      subst this
      simp [lastE] at he
theorem boxed_if {W : World} {B : Nat} {t : TypeId} {v : Value} (h : Boxed W B t v) (B1 : Nat) (v1 : Value) : Boxed (W.setCell ⟨B1, 0, none⟩ v1) B t (if B1 = B then v1 else v) := by
  by_cases e : B1 = B
  · subst e; rw [if_pos rfl]; exact h.set _
  · rw [if_neg e]; exact h.other (fun h => e h.symm) _
theorem boxed3 {W : World} {B : Nat} {t : TypeId} {v v' : Value} (h : Boxed W B t v) (B1 B2 B3 : Nat) (v1 v2 v3 : Value) (e : (if B3 = B then v3 else if B2 = B then v2 else if B1 = B then v1 else v) = v') :
    Boxed (((W.setCell ⟨B1, 0, none⟩ v1).setCell ⟨B2, 0, none⟩ v2).setCell ⟨B3, 0, none⟩ v3).drew B t v' := by
  subst e
  exact boxed_drew (boxed_if (boxed_if (boxed_if h B1 v1) B2 v2) B3 v3)
theorem boxed3n {W : World} {B : Nat} {t : TypeId} {v v' : Value} (h : Boxed W B t v) (B1 B2 B3 : Nat) (v1 v2 v3 : Value) (e : (if B3 = B then v3 else if B2 = B then v2 else if B1 = B then v1 else v) = v') :
    Boxed (((W.setCell ⟨B1, 0, none⟩ v1).setCell ⟨B2, 0, none⟩ v2).setCell ⟨B3, 0, none⟩ v3) B t v' := by
  subst e
  exact boxed_if (boxed_if (boxed_if h B1 v1) B2 v2) B3 v3
def spotCells (x : Spot) : Array Value := #[.int .i64 x.l.f0, .int .u8 x.l.f1, .string x.l.f2, .int .i64 x.l.f3, .int .i64 x.size, .int .i64 x.e]
theorem blk_own {W W' : World} {row : Option Nat} {g B : Nat} {cs : Array Value} {t : TypeId} (h : W.heap[g]? = some (.cells cs t (0, 0))) (hg : W.grownBy W' row) (hr : ∀ r, row = some r → B ≤ r ∧ ∃ o : Obj, W.heap[r]? = some o ∧ o.isCells = false) : W'.heap[g]? = some (.cells cs t (0, 0)) :=
  (hg.block g (blk_lt h) (fun e => by
    obtain ⟨_, o, ho, hc⟩ := hr g e.symm
    rw [h] at ho
    cases ho
    cases hc)).trans h

set_option pp.maxSteps 1500 in
set_option maxRecDepth 100000 in
set_option maxHeartbeats 4000000 in
theorem lexOf_in (s : ByteArray) (hs : s.size ≤ 8192) (w : World) :
    CallsIn Fence.wide 3 Try.prog 45 #[.string s] w fun e W' => ∃ v l a b, e = .returned (.tuple #[v, .int .i64 a, .int .i64 b]) ∧ lexP s = (l, a, b) ∧ Kd.R k47 47 W' w.heap.size (fun _ => True) v l ∧ Below w.heap.size w W' := by
  obtain ⟨i0, hi, hz0, hz1, hz2⟩ := info_parts info47h
  refine callsIn_of_wp_marks Try.func45 rfl trivial ?_ rfl
  simp only [Try.ntmps45, List.size_toArray, List.length_cons, List.length_nil, Nat.reduceAdd, Nat.reduceSub, Array.replicate_succ, Array.replicate_zero, List.push_toArray, List.append_toArray, List.nil_append, List.cons_append]
  have hs2 : (s.size : Int) ≤ 8192 := by omega
  gi_wp2_with (refine ⟨trivial, ?_⟩; gi_at_call 82; refine (all_in s _ _).mono ?_; rintro e w' ⟨rfl, rfl⟩)
  have b0 := (((Boxed.new w 41 (.slice none 0 0)).alloc (.cells #[.int .i64 0] 3)).alloc (.cells #[.int .i64 0] 42)).alloc (.cells #[.string s] 9)
  have b1 := ((Boxed.new (w.alloc (.cells #[.slice none 0 0] 41)) 3 (.int .i64 0)).alloc (.cells #[.int .i64 0] 42)).alloc (.cells #[.string s] 9)
  have b2 := (Boxed.new ((w.alloc (.cells #[.slice none 0 0] 41)).alloc (.cells #[.int .i64 0] 3)) 42 (.int .i64 0)).alloc (.cells #[.string s] 9)
  have b3 := Boxed.new (((w.alloc (.cells #[.slice none 0 0] 41)).alloc (.cells #[.int .i64 0] 3)).alloc (.cells #[.int .i64 0] 42)) 9 (.string s)
  have hB0 : Below w.heap.size w ((((w.alloc (.cells #[.slice none 0 0] 41)).alloc (.cells #[.int .i64 0] 3)).alloc (.cells #[.int .i64 0] 42)).alloc (.cells #[.string s] 9)) :=
    ((((Below.refl _ w).alloc (Nat.le_refl _) _).alloc (by simp) _).alloc (by simp; omega) _).alloc (by simp; omega) _
  have hz : ((((w.alloc (.cells #[.slice none 0 0] 41)).alloc (.cells #[.int .i64 0] 3)).alloc (.cells #[.int .i64 0] 42)).alloc (.cells #[.string s] 9)).heap.size = w.heap.size + 4 := by simp
  simp only [World.size_alloc] at b0 b1 b2 b3
  obtain ⟨W0, hW0⟩ : ∃ W0, ((((w.alloc (.cells #[.slice none 0 0] 41)).alloc (.cells #[.int .i64 0] 3)).alloc (.cells #[.int .i64 0] 42)).alloc (.cells #[.string s] 9)) = W0 := ⟨_, rfl⟩
  rw [hW0] at b0 b1 b2 b3 hB0 hz ⊢
  clear hW0
  apply wpIn_rangeFunc_ownH rfl (by omega) (gf := 129) (lb := #[.pointer (some ⟨w.heap.size + 1 + 1 + 1, 0, none⟩)]) rfl trivial (enters_of Try.func129 (by kernel_rfl) rfl)
    (all_stops _ (by omega) (w.heap.size + 1 + 1 + 1) s (by omega) W0 b3) KS_t (KS_b (by omega)) (Below.refl _ _) (fun _ => rfl)
    (fun pre W => (∃ v, Boxed W w.heap.size 41 v ∧ W.ownsRow w.heap.size 47 4 v pre.length (flat47 (lexes pre)) ∧ True) ∧ (Boxed W (w.heap.size + 1) 3 (.int .i64 0) ∧ Boxed W (w.heap.size + 1 + 1) 42 (.int .i64 0) ∧ Boxed W (w.heap.size + 1 + 1 + 1) 9 (.string s)) ∧ Below w.heap.size w W ∧ lastE pre = 0)
    (fun c pre W => (c = .ret ∧ lastE pre ≠ 0) ∧ (Boxed W w.heap.size 41 (.slice none 0 0) ∧ Boxed W (w.heap.size + 1) 3 (.int .i64 (lastAt pre)) ∧ Boxed W (w.heap.size + 1 + 1) 42 (.int .i64 (lastE pre))) ∧ Below w.heap.size w W)
    (OwnFrom.and (Own.from (holdsRow_own w.heap.size w.heap.size 41 47 4 (fun pre => pre.length) (fun pre => flat47 (lexes pre)) (fun _ _ => True)) _) (OwnFrom.and (OwnFrom.and (Own.from (boxed_own' _ _ _) _) (OwnFrom.and (Own.from (boxed_own' _ _ _) _) (Own.from (boxed_own' _ _ _) _))) (OwnFrom.and (ownFrom_below (Nat.le_refl _) (by omega)) (ownFrom_pure _ _))))
    (fun c => OwnFrom.and (ownFrom_pure _ _) (OwnFrom.and (OwnFrom.and (Own.from (boxed_own' _ _ _) _) (OwnFrom.and (Own.from (boxed_own _ _ (fun pre => .int .i64 (lastAt pre))) _) (Own.from (boxed_own _ _ (fun pre => .int .i64 (lastE pre))) _))) (ownFrom_below (Nat.le_refl _) (by omega))))
    ⟨⟨_, b0, World.ownsRow_nil _ _ _ _, trivial⟩, ⟨b1, b2, b3⟩, hB0, rfl⟩
    (fun x a' W => ∃ Bx, w.heap.size + 4 ≤ Bx ∧ W.heap[Bx]? = some (.cells (spotCells x.2) 87 (0, 0)) ∧ a' = { tmps := #[.string s, undef, .pointer (some ⟨w.heap.size, 0, none⟩), .pointer (some ⟨w.heap.size + 1, 0, none⟩), .pointer (some ⟨w.heap.size + 1 + 1, 0, none⟩), .int .i64 x.1, .pointer (some ⟨Bx, 0, none⟩), .string s, .int .i64 s.size, .bool (decide (8192 < (s.size : Int))), .string s, .func (.func 129) #[] #[.pointer (some ⟨w.heap.size + 1 + 1 + 1, 0, none⟩)], .int .i64 x.1, encSpot x.2, undef, undef, undef, undef, undef, undef, undef, undef, undef, undef, undef, undef, undef, undef, undef, undef, undef, undef, undef, undef, undef, undef, undef], defers := [] })
    (fun x a' _ W W' row hs hg hr => by
      obtain ⟨Bx, g1, g2, g3⟩ := hs
      exact ⟨Bx, g1, blk_own g2 hg hr, g3⟩)
  case hassign =>
    rintro l pre ⟨k, ⟨⟨f0, f1, f2, f3⟩, sz, er⟩⟩ W K ⟨⟨v, hv, hrow, -⟩, ⟨h1, h2, h3⟩, hB, he⟩ hK
    dsimp only [encA, encSpot] at *
    have Hrow := Lib.hid hrow
    have HK := Lib.hid hK
    have hsz : w.heap.size + 4 ≤ W.heap.size := by have := h3.lt; omega
    clear hrow hK
    gi_wp2
    refine HK.out _ _ ((KeepsOthers.alloc _ _).from _) ⟨Below.heap_alloc _ _ _ h3.lt, fun g cs hg => blk_alloc hg _⟩ ⟨⟨v, hv.alloc _, Hrow.out.alloc _, trivial⟩, ⟨h1.alloc _, h2.alloc _, h3.alloc _⟩, hB.alloc hB.size _, he⟩ ⟨W.heap.size, hsz, blk_new W _, rfl⟩
  case hbody =>
    rintro l pre ⟨k, ⟨⟨f0, f1, f2, f3⟩, sz, er⟩⟩ a' W hl hr ⟨⟨v, hv, hrow, -⟩, ⟨h1, h2, h3⟩, hB, he⟩ ⟨Bx, hBx, hX, rfl⟩ hlt
    dsimp only [spotCells, encSpot] at *
    have c0 := blk_cell hX 0
    have c1 := blk_cell hX 1
    have c2 := blk_cell hX 2
    have c3 := blk_cell hX 3
    have c5 := blk_cell hX 5
    simp only [List.getElem?_toArray, List.getElem?_cons_succ, List.getElem?_cons_zero] at c0 c1 c2 c3 c5
    have hs4 : w.heap.size + 4 ≤ W.heap.size := by have := h3.lt; omega
    have hvc := hv.cell
    have hvf := hv.frozen
    by_cases her : er = 0
    · subst her
      have Hr := Lib.hid hrow
      have HX := Lib.hid hX
      clear hrow hX c5
      have c5 : W.cell? ⟨Bx, 5, none⟩ = some (.int .i64 0) := by rw [blk_cell HX.out 5]; rfl
      gi_wp2_with (gi_at_builtin; refine wpListIn_append_own _ rfl _ _ 41 rfl w.heap.size 47 i0 (.agg #[(.int .i64 0), (.int .u8 0), (.string ⟨#[]⟩), (.int .i64 0)]) 4 40 Try.underlying41 hi hz0 hz1 hz2 rfl (by decide) _ _ _ rfl (Hr.out.alloc _) ⟨W.heap.size, 0, none⟩ 1 1 [.int .i64 f0, .int .u8 f1, .string f2, .int .i64 f3] rfl rfl ?c1 ?c2 ?c3 ?c4 ?c5 ?c6)
      case c1 => exact cells_new W [.int .i64 f0, .int .u8 f1, .string f2, .int .i64 f3] 47
      case c2 => simp [Value.oneCell']
      case c3 => unfold maxLen; omega
      case c4 => omega
      case c5 => simp; omega
      case c6 =>
        intro v' w1 hown' hgrow _
        obtain ⟨g', cap', rfl⟩ := ownsRow_succ hown'
        obtain ⟨hv1, hv2, hr2, hk2, hb2⟩ := hv.appended (by decide) Hr.out (show w.heap.size ≤ W.heap.size by omega) (Nat.le_refl _) hown' hgrow
        have hkeep : ∀ (g : Nat) (cs : Array Value) (t : TypeId), t ≠ 41 → t ≠ 47 → W.heap[g]? = some (.cells cs t (0, 0)) → (w1.setCell ⟨w.heap.size, 0, none⟩ (Value.slice (some ⟨g', 0, none⟩) (pre.length + 1) cap')).heap[g]? = some (.cells cs t (0, 0)) := fun g cs t ht1 ht2 hg => by
          have hgl : g ≠ w.heap.size := fun e => by
            subst e
            rw [show W.heap[w.heap.size]? = _ from hv] at hg
            simp only [Option.some.injEq, Obj.cells.injEq] at hg
            exact ht1 hg.2.1.symm
          rw [Below.heap_setCell _ _ _ _ hgl]
          exact (hgrow.block g (by simp; have := blk_lt hg; omega) (own_ne Hr.out hg (Ne.symm ht2))).trans (blk_alloc hg _)
        have q1 := hkeep _ _ 3 (by decide) (by decide) h1
        have q2 := hkeep _ _ 42 (by decide) (by decide) h2
        have q3 := hkeep _ _ 9 (by decide) (by decide) h3
        have q4 : ∀ (g : Nat) (cs : Array Value), W.heap[g]? = some (.cells cs 87 (0, 0)) → (w1.setCell ⟨w.heap.size, 0, none⟩ (Value.slice (some ⟨g', 0, none⟩) (pre.length + 1) cap')).heap[g]? = some (.cells cs 87 (0, 0)) := fun g cs hg => hkeep g cs 87 (by decide) (by decide) hg
        have q5 := h3
        have hc1 := hv1.cell
        have hf1 := hv1.frozen
        have HQ := Lib.hid (And.intro q1 (And.intro q2 (And.intro q3 (And.intro q4 (And.intro hr2 (And.intro hv2 hown'))))))
        clear q1 q2 q3 q4 hr2 hv2 hown' hkeep hv1 c0 c1 c2 c3 c5 hvc hvf
        gi_wp2
        obtain ⟨q1, q2, q3, q4, hr2, hv2, -⟩ := HQ.out
        refine ⟨hk2.from _, ⟨q3.trans (show W.heap[w.heap.size + 1 + 1 + 1]? = _ from h3).symm, q4⟩, ⟨_, hv2, ?_, trivial⟩, ⟨q1, q2, q3⟩, hB.trans (hb2.mono (by omega)), lastE_snoc _ _⟩
        rw [lexes_snoc, flat47_snoc]
        simpa using hr2
    · have hb1 : (er == 0) = false := beq_eq_false_iff_ne.2 her
      have hb2 : (er != 0) = true := bne_iff_ne.2 her
      have Hr := Lib.hid hrow
      have HX := Lib.hid hX
      have e1 := h1.cell
      have e2 := h1.frozen
      have e3 := h2.cell
      have e4 := h2.frozen
      have Her := Lib.hid her
      clear hrow hX her
      gi_wp2
      have mixed : Try.prog.follows .mixedOrders = true := by kernel_rfl
      gi_region_with_o (fail)
      all_goals gi_wp2
      all_goals (try go_bits)
      all_goals
        refine ⟨?_, ⟨rfl, by rw [lastE_snoc]; exact Her.out⟩, ⟨?_, ?_, ?_⟩, ?_⟩
        · exact (((((KeepsOthers.setCell _ _ _).trans (KeepsOthers.setCell _ _ _)).trans (KeepsOthers.setCell _ _ _)).trans (KeepsOthers.drew _)).from _)
        · exact boxed3 hv _ _ _ _ _ _ (by simp <;> omega)
        · rw [lastAt_snoc]
          exact boxed3 h1 _ _ _ _ _ _ (by simp <;> omega)
        · rw [lastE_snoc]
          exact boxed3 h2 _ _ _ _ _ _ (by simp <;> omega)
        · exact below_drew (((hB.setCell (by simp; try omega) _).setCell (by simp; try omega) _).setCell (by simp; try omega) _)
  case hdone =>
    rintro D ys W hD rfl ⟨⟨v, hv, hrow, -⟩, ⟨h1, h2, h3⟩, hB, he⟩ hK
    have e0 := hv.cell
    have e1 := hv.frozen
    have e2 := h1.cell
    have e3 := h1.frozen
    have e4 := h2.cell
    have e5 := h2.frozen
    have Hr := Lib.hid hrow
    have HK := Lib.hid hK
    obtain ⟨A, c, rfl⟩ := own_slice hrow
    clear hrow hK
    simp only [Exit.inBlock, Exit.then]
    gi_wp2
    have n0 := own_ne Hr.out hv (by decide)
    have n1 := own_ne Hr.out h1 (by decide)
    have n2 := own_ne Hr.out h2 (by decide)
    have hro := own_setCell (own_setCell (own_setCell Hr.out (p := ⟨w.heap.size, 0, none⟩) n0 (Value.slice A (allL s s.size 0).length c)) (p := ⟨w.heap.size + 1, 0, none⟩) n1 (Value.int IntKind.i64 0)) (p := ⟨w.heap.size + 1 + 1, 0, none⟩) n2 (Value.int IntKind.i64 0)
    have q0 := boxed3n hv w.heap.size (w.heap.size + 1) (w.heap.size + 1 + 1) (Value.slice A (allL s s.size 0).length c) (.int .i64 0) (.int .i64 0) (v' := Value.slice A (allL s s.size 0).length c) (by simp <;> omega)
    have q1 := boxed3n h1 w.heap.size (w.heap.size + 1) (w.heap.size + 1 + 1) (Value.slice A (allL s s.size 0).length c) (.int .i64 0) (.int .i64 0) (v' := .int .i64 0) (by simp)
    have q2 := boxed3n h2 w.heap.size (w.heap.size + 1) (w.heap.size + 1 + 1) (Value.slice A (allL s s.size 0).length c) (.int .i64 0) (.int .i64 0) (v' := .int .i64 0) (by simp)
    have hk2 : (((W.setCell ⟨w.heap.size, 0, none⟩ (Value.slice A (allL s s.size 0).length c)).setCell ⟨w.heap.size + 1, 0, none⟩ (.int .i64 0)).setCell ⟨w.heap.size + 1 + 1, 0, none⟩ (.int .i64 0)).heap[D]? = some (.deferred (some [])) := by
      rw [Below.heap_setCell _ _ _ _ (by simp; omega), Below.heap_setCell _ _ _ _ (by simp; omega), Below.heap_setCell _ _ _ _ (by simp; omega)]; exact HK.out
    have hbel : Below w.heap.size w (((W.setCell ⟨w.heap.size, 0, none⟩ (Value.slice A (allL s s.size 0).length c)).setCell ⟨w.heap.size + 1, 0, none⟩ (.int .i64 0)).setCell ⟨w.heap.size + 1 + 1, 0, none⟩ (.int .i64 0)) :=
      ((hB.setCell (show w.heap.size ≤ w.heap.size by omega) _).setCell (show w.heap.size ≤ w.heap.size + 1 by omega) _).setCell (show w.heap.size ≤ w.heap.size + 1 + 1 by omega) _
    clear e0 e1 e2 e3 e4 e5 hv h1 h2 h3 hB b0 b1 b2 b3 n0 n1 n2
    generalize (((W.setCell ⟨w.heap.size, 0, none⟩ (Value.slice A (allL s s.size 0).length c)).setCell ⟨w.heap.size + 1, 0, none⟩ (.int .i64 0)).setCell ⟨w.heap.size + 1 + 1, 0, none⟩ (.int .i64 0)) = W2 at *
    refine ⟨by simp, .inl ⟨_, _, rfl, run_takeDeferred hk2, ?_⟩⟩
    have hbd : Below w.heap.size W2 (W2.putObj D (.deferred none)) := belowK_b (w := w) (Nat.le_refl _) W2 D (.deferred (some [])) (.deferred none) (by omega) hk2 rfl rfl
    have p0 := (q0.kept (grownBy_putObj' W2 D (.deferred none)) (by simp; omega)).cell
    have p1 := (q1.kept (grownBy_putObj' W2 D (.deferred none)) (by simp; omega)).cell
    have p2 := (q2.kept (grownBy_putObj' W2 D (.deferred none)) (by simp; omega)).cell
    have hlex : lexP s = (lexes (allL s s.size 0), 0, 0) := by unfold lexP; rw [if_neg (by omega), if_pos he]
    have hro2 := ownsRow_putObj hro (.deferred none) hk2 rfl
    rw [show (allL s s.size 0).length = (lexes (allL s s.size 0)).length from (lexes_length _).symm] at hro2 p0 ⊢
    refine ⟨_, ?_, _, _, _, _, rfl, hlex, own_R47 hro2 _ (Nat.le_refl _), hbel.trans hbd⟩
    simp [results, Try.results45, go_sem, p0, p1, p2]
  case hstop =>
    rintro D c pre W hD hpre ⟨⟨rfl, he⟩, ⟨h0, h1, h2⟩, hB⟩ hK
    have hw := allL_whole s s.size 0 pre hpre he
    have hlex : lexP s = ([], lastAt pre, lastE pre) := by unfold lexP; rw [if_neg (by omega), ← hw, if_neg he]
    gi_wp2
    refine ⟨by simp, .inl ⟨_, _, rfl, run_takeDeferred hK, ?_⟩⟩
    have hbd : Below w.heap.size W (W.putObj D (.deferred none)) := belowK_b (w := w) (Nat.le_refl _) W D (.deferred (some [])) (.deferred none) (by omega) hK rfl rfl
    have p0 := (h0.kept (grownBy_putObj' W D (.deferred none)) (by simp; omega)).cell
    have p1 := (h1.kept (grownBy_putObj' W D (.deferred none)) (by simp; omega)).cell
    have p2 := (h2.kept (grownBy_putObj' W D (.deferred none)) (by simp; omega)).cell
    refine ⟨_, ?_, _, _, _, _, rfl, hlex, Kd.R_nil _ _ _ _ _, hB.trans hbd⟩
    simp [results, Try.results45, go_sem, p0, p1, p2]

set_option maxHeartbeats 1000000 in
theorem lexOf_long (s : ByteArray) (hs : 8192 < s.size) (w : World) :
    Calls Try.prog 45 #[.string s] w fun e W' => e = .returned (.tuple #[.slice none 0 0, .int .i64 0, .int .i64 4]) ∧ Below w.heap.size w W' := by
  have hs2 : (8192 : Int) < (s.size : Int) := by omega
  go_enter Try.func45, Try.ntmps45
  go_wp2
  refine bodyPost_ret (v := .tuple #[.slice none 0 0, .int .i64 0, .int .i64 4]) (by simp [results, Try.results45, go_sem]) rfl ⟨rfl, ?_⟩
  exact (((Below.refl _ w).alloc (Nat.le_refl _) _).alloc (by simp) _).alloc (by simp; omega) _
/-- lex.Of -/
def lex_Of.f (a0 : ByteArray) : Option (List S47 × Int × Int) := some (lexP a0)
theorem lex_Of.calls (a0 : ByteArray) (r1 : List S47) (r2 r3 : Int) (w : World) (h : lex_Of.f a0 = some (r1, r2, r3)) :
    Calls Try.prog 45 #[.string a0] w fun e w' => ∃ v0_ : Value, e = .returned (.tuple #[v0_, .int .i64 r2, .int .i64 r3]) ∧ Kd.R k47 47 w' w.heap.size (fun _ => True) v0_ r1 ∧ Below w.heap.size w w' := by
  have h1 : lexP a0 = (r1, r2, r3) := Option.some.inj h
  by_cases hs : a0.size ≤ 8192
  · refine (callsIn_wide.1 (lexOf_in a0 hs w)).mono ?_
    rintro e W' ⟨v, l, a, b, rfl, h2, h3, h4⟩
    rw [h1] at h2
    simp only [Prod.mk.injEq] at h2
    obtain ⟨rfl, rfl, rfl⟩ := h2
    exact ⟨v, rfl, h3, h4⟩
  · have h2 : lexP a0 = ([], 0, 4) := if_pos (by omega)
    rw [h1] at h2
    simp only [Prod.mk.injEq] at h2
    obtain ⟨rfl, rfl, rfl⟩ := h2
    refine (lexOf_long a0 (by omega) w).mono ?_
    rintro e W' ⟨rfl, h4⟩
    exact ⟨_, rfl, Kd.R_nil _ _ _ _ _, h4⟩
end Go.Proofs.Ythcmfjpheanphaa.Pr
