import Derived.Test.YthcmfjpheanphaaHruns2
namespace Go.Proofs.Ythcmfjpheanphaa.Pr
open Go.RowKit Go.Shelf Go.Proofs.YthcmfjpheanphaaW.PrintWords
attribute [local go_sem] Oper.semAt_some

/-- what Case counts: small letters, capitals but the first, is the first one a capital; none: no letter has come -/
def caseRuns : List S27 → Int → Int → Bool → Option (Int × Int × Bool)
  | [], sm, rs, fi => some (sm, rs, fi)
  | x :: xs, sm, rs, fi =>
    if classP (bt x.f1 0) = 1 then caseRuns xs (sm + x.f1.size) rs fi
    else if classP (bt x.f1 0) = 2 then (if x.f0 = 0 then caseRuns xs sm (rs + x.f1.size - 1) true else caseRuns xs sm (rs + x.f1.size) fi)
    else none
def caseOut (s : ByteArray) : Option (Int × Int × Bool) → Int
  | none => 0
  | some (sm, rs, fi) => if s.size = 0 then 0 else if sm = s.size then 1 else if fi = true ∧ rs = 0 then 2 else if sm = 0 then 3 else 4

theorem caseRuns_append : ∀ (xs ys : List S27) (sm rs : Int) (fi : Bool), caseRuns (xs ++ ys) sm rs fi = (caseRuns xs sm rs fi).bind fun p => caseRuns ys p.1 p.2.1 p.2.2
  | [], ys, sm, rs, fi => rfl
  | x :: xs, ys, sm, rs, fi => by
    simp only [caseRuns, List.cons_append]
    split
    · exact caseRuns_append xs ys _ _ _
    · split
      · split
        · exact caseRuns_append xs ys _ _ _
        · exact caseRuns_append xs ys _ _ _
      · rfl

theorem boxed_drew {W : World} {B : Nat} {t : TypeId} {v : Value} (h : Boxed W B t v) : Boxed W.drew B t v := h
def IsBox (W : World) (B : Nat) (t : TypeId) : Prop := ∃ v, Boxed W B t v
theorem isBox_set {W : World} {B : Nat} {t : TypeId} (h : IsBox W B t) (n : Nat) (u : Value) : IsBox (W.setCell ⟨n, 0, none⟩ u) B t := by
  obtain ⟨v, h⟩ := h
  by_cases e : B = n
  · subst e; exact ⟨u, h.set u⟩
  · exact ⟨v, h.other e u⟩
theorem isBox_drew {W : World} {B : Nat} {t : TypeId} (h : IsBox W B t) : IsBox W.drew B t := h
theorem boxed_set1 {W : World} {B : Nat} {t : TypeId} (h : IsBox W B t) (u : Value) : Boxed (W.setCell ⟨B, 0, none⟩ u) B t u := by
  obtain ⟨v, h⟩ := h
  exact h.set u
theorem below_set1 {B n : Nat} {A W : World} (h : Below B A W) (hn : B ≤ n) (v : Value) : Below B A (W.setCell ⟨n, 0, none⟩ v) := h.setCell hn v
theorem kb_set1 {B n : Nat} {A W : World} (h : KB B A W) (hne : B ≠ n) (v : Value) : KB B A (W.setCell ⟨n, 0, none⟩ v) := (Below.heap_setCell W ⟨n, 0, none⟩ v B hne).trans h
theorem keepsFrom_drew {B : Nat} {A W : World} (h : KeepsFrom B A W) : KeepsFrom B A W.drew := ⟨h.size, h.same⟩
theorem keepsFrom_set {B : Nat} {A W : World} (h : KeepsFrom B A W) (a : Addr) (v : Value) : KeepsFrom B A (W.setCell a v) := h.trans ((KeepsOthers.setCell W a v).from B)
theorem keepsFrom_below {B : Nat} {A W : World} (h : Below A.heap.size A W) : KeepsFrom B A W := KeepsFrom.of_grownBy (grown_of_below h none) (by simp)
theorem kb_drew {B : Nat} {A W : World} (h : KB B A W) : KB B A W.drew := h
theorem kb_set {B : Nat} {A W : World} (h : KB B A W) (a : Addr) (v : Value) (hne : B ≠ a.block) : KB B A (W.setCell a v) := (Below.heap_setCell W a v B hne).trans h

theorem empty_size (s : ByteArray) : s.toList.isEmpty = decide (s.size = 0) := by
  rw [ByteArray.toList_eq]
  cases h : s.data.toList with
  | nil =>
    have : s.size = 0 := by
      show s.data.size = 0
      rw [← Array.length_toList, h]; rfl
    rw [this]; rfl
  | cons a l =>
    have : s.size = l.length + 1 := by
      show s.data.size = _
      rw [← Array.length_toList, h]; rfl
    rw [this]; rfl
theorem case_end (s : ByteArray) (w W : World) (D : Nat) (n : Int) (h : caseOut s (caseRuns (runsL s s.size 0) 0 0 false) = n) (v0 : Int) (k0 : Boxed W w.heap.size 3 (.int .i64 v0)) (hD : w.heap.size < D) (hb : Below w.heap.size w W)
    (hK : W.heap[D]? = some (.deferred (some []))) (a : Act) (ha : a.tmps[2]? = some (.pointer (some ⟨w.heap.size, 0, none⟩))) (hd : a.defers = [{ target := .collected D, args := #[] }]) :
    bodyPostM Fence.wide 3 Try.prog Try.f28 (fun e W' => e = .returned (.int .i64 (caseOut s (caseRuns (runsL s s.size 0) 0 0 false))) ∧ Below w.heap.size w W') Exit.ret a (W.setCell ⟨w.heap.size, 0, none⟩ (.int .i64 n)) := by
  obtain ⟨tm, df⟩ := a
  simp only at ha hd
  subst hd
  have hk2 : (W.setCell ⟨w.heap.size, 0, none⟩ (.int .i64 n)).heap[D]? = some (.deferred (some [])) := (Below.heap_setCell _ _ _ _ (by simp; omega)).trans hK
  have q0 := k0.set (.int .i64 n)
  have hbel := hb.setCell (p := ⟨w.heap.size, 0, none⟩) (Nat.le_refl _) (.int .i64 n)
  generalize (W.setCell ⟨w.heap.size, 0, none⟩ (.int .i64 n)) = W2 at *
  refine ⟨by simp, .inl ⟨_, _, rfl, run_takeDeferred hk2, ?_⟩⟩
  have p0 := (q0.kept (grownBy_putObj' W2 D (.deferred none)) (by simp; omega)).cell
  refine ⟨_, by simp [results, Try.results28, go_sem, p0, ha]; rfl, by rw [h], hbel.trans (belowK_b (w := w) (Nat.le_refl _) W2 D _ _ (by omega) hk2 rfl rfl)⟩

set_option maxRecDepth 100000 in
set_option maxHeartbeats 4000000 in
theorem case_in (s : ByteArray) (hs : s.size ≤ 1000000) (w : World) :
    CallsIn Fence.wide 3 Try.prog 28 #[.string s] w fun e W' => e = .returned (.int .i64 (caseOut s (caseRuns (runsL s s.size 0) 0 0 false))) ∧ Below w.heap.size w W' := by
  refine callsIn_of_wp_marks Try.func28 rfl trivial ?_ rfl
  simp only [Try.ntmps28, List.size_toArray, List.length_cons, List.length_nil, Nat.reduceAdd, Nat.reduceSub, Array.replicate_succ, Array.replicate_zero, List.push_toArray, List.append_toArray, List.nil_append, List.cons_append]
  gi_wp2_with (refine ⟨trivial, ?_⟩; gi_at_call 25; refine (runs_in s _ _).mono ?_; rintro e w' ⟨rfl, rfl⟩)
  have b0 := Boxed.new w 3 (.int .i64 0)
  have b1 := Boxed.new (w.alloc (.cells #[.int .i64 0] 3)) 4 (.bool false)
  have b2 := Boxed.new ((w.alloc (.cells #[.int .i64 0] 3)).alloc (.cells #[.bool false] 4)) 3 (.int .i64 0)
  have b3 := Boxed.new (((w.alloc (.cells #[.int .i64 0] 3)).alloc (.cells #[.bool false] 4)).alloc (.cells #[.int .i64 0] 3)) 3 (.int .i64 0)
  have b4 := Boxed.new ((((w.alloc (.cells #[.int .i64 0] 3)).alloc (.cells #[.bool false] 4)).alloc (.cells #[.int .i64 0] 3)).alloc (.cells #[.int .i64 0] 3)) 9 (.string s)
  replace b0 := (((b0.alloc (.cells #[.bool false] 4)).alloc (.cells #[.int .i64 0] 3)).alloc (.cells #[.int .i64 0] 3)).alloc (.cells #[.string s] 9)
  replace b1 := ((b1.alloc (.cells #[.int .i64 0] 3)).alloc (.cells #[.int .i64 0] 3)).alloc (.cells #[.string s] 9)
  replace b2 := (b2.alloc (.cells #[.int .i64 0] 3)).alloc (.cells #[.string s] 9)
  replace b3 := b3.alloc (.cells #[.string s] 9)
  have hB0 : Below w.heap.size w (((((w.alloc (.cells #[.int .i64 0] 3)).alloc (.cells #[.bool false] 4)).alloc (.cells #[.int .i64 0] 3)).alloc (.cells #[.int .i64 0] 3)).alloc (.cells #[.string s] 9)) :=
    (((((Below.refl _ w).alloc (Nat.le_refl _) _).alloc (by simp) _).alloc (by simp; omega) _).alloc (by simp; omega) _).alloc (by simp; omega) _
  have hz : (((((w.alloc (.cells #[.int .i64 0] 3)).alloc (.cells #[.bool false] 4)).alloc (.cells #[.int .i64 0] 3)).alloc (.cells #[.int .i64 0] 3)).alloc (.cells #[.string s] 9)).heap.size = w.heap.size + 5 := by simp
  simp only [World.size_alloc] at b0 b1 b2 b3 b4
  obtain ⟨W0, hW0⟩ : ∃ W0, (((((w.alloc (.cells #[.int .i64 0] 3)).alloc (.cells #[.bool false] 4)).alloc (.cells #[.int .i64 0] 3)).alloc (.cells #[.int .i64 0] 3)).alloc (.cells #[.string s] 9)) = W0 := ⟨_, rfl⟩
  rw [hW0] at b0 b1 b2 b3 b4 hB0 hz ⊢
  clear hW0
  refine wpIn_rangeFunc_ownG rfl (by omega) (gf := 79) (lb := #[.pointer (some ⟨w.heap.size + 1 + 1 + 1 + 1, 0, none⟩)]) rfl trivial (enters_of Try.func79 (by kernel_rfl) rfl)
    (runs_stops _ (by omega) (w.heap.size + 1 + 1 + 1 + 1) s (by omega) W0 b4) KB_t (KB_b (by omega)) (Below.refl _ _) (fun _ => rfl)
    (fun pre W => (∃ sm rs fi, caseRuns (valsR pre) 0 0 false = some (sm, rs, fi) ∧ 0 ≤ sm ∧ sm ≤ pre.length * 1000000 ∧ -(pre.length : Int) ≤ rs ∧ rs ≤ pre.length * 1000000 ∧
        Boxed W (w.heap.size + 1) 4 (.bool fi) ∧ Boxed W (w.heap.size + 1 + 1) 3 (.int .i64 rs) ∧ Boxed W (w.heap.size + 1 + 1 + 1) 3 (.int .i64 sm)) ∧ Boxed W w.heap.size 3 (.int .i64 0) ∧ Below w.heap.size w W ∧ w.heap.size + 5 ≤ W.heap.size)
    (fun c pre W => c = .ret ∧ caseRuns (valsR pre) 0 0 false = none ∧ Boxed W w.heap.size 3 (.int .i64 0) ∧ Below w.heap.size w W)
    ?hI ?hIx
    ⟨⟨0, 0, false, rfl, by simp, by simp, by simp, by simp, b1, b2, b3⟩, b0, hB0, by omega⟩
    (fun x => { tmps := #[.string s, undef, .pointer (some ⟨w.heap.size, 0, none⟩), .pointer (some ⟨w.heap.size + 1, 0, none⟩), .pointer (some ⟨w.heap.size + 1 + 1, 0, none⟩), .pointer (some ⟨w.heap.size + 1 + 1 + 1, 0, none⟩), .int .i64 x.1.f0, .string x.1.f1, .string s, .func (.func 79) #[] #[.pointer (some ⟨w.heap.size + 1 + 1 + 1 + 1, 0, none⟩)], .int .i64 x.1.f0, .string x.1.f1, undef, undef, undef, undef, undef, undef, undef, undef, undef, undef, undef, undef, undef, undef, undef, undef, undef, undef, undef, undef, undef, undef, undef, undef, undef, undef, undef, undef, undef, undef, undef, undef, undef, undef, undef, undef], defers := [] }) ?assign ?body ?done ?stop
  case hI =>
    rintro pre A B row ⟨⟨sm, rs, fi, h1, h2, h3, h4, h5, k1, k2, k3⟩, k0, hb, hw5⟩ hg hr
    have hne : ∀ {W : World} {b : Nat} {t : TypeId} {v : Value}, Boxed A b t v → some b ≠ row := by
      intro W b t v hx e
      obtain ⟨hB, o, ho, hc⟩ := hr b e.symm
      rw [show A.heap[b]? = _ from hx] at ho; cases ho; cases hc
    exact ⟨⟨sm, rs, fi, h1, h2, h3, h4, h5, k1.kept hg (hne k1 (W := A)), k2.kept hg (hne k2 (W := A)), k3.kept hg (hne k3 (W := A))⟩, k0.kept hg (hne k0 (W := A)), hb.grown hg hb.size (fun k e => by have := (hr k e).1; omega), Nat.le_trans hw5 hg.size⟩
  case hIx =>
    rintro c pre A B row ⟨h1, h2, k0, hb⟩ hg hr
    refine ⟨h1, h2, k0.kept hg ?_, hb.grown hg hb.size (fun k e => by have := (hr k e).1; omega)⟩
    intro e
    obtain ⟨hB, o, ho, hc⟩ := hr _ e.symm
    rw [show A.heap[w.heap.size]? = _ from k0] at ho; cases ho; cases hc
  case assign =>
    intro l x W K hK
    gi_wp2
    exact hK
  case body =>
    rintro l pre x W ⟨⟨sm, rs, fi, h1, h2, h3, h4, h5, k1, k2, k3⟩, k0, hb, hw5⟩ hlt
    have e0 := k0.cell
    have e0f := k0.frozen
    have e1 := k1.cell
    have e1f := k1.frozen
    have e2 := k2.cell
    have e2f := k2.frozen
    have e3 := k3.cell
    have e3f := k3.frozen
    obtain ⟨X, hXx⟩ : ∃ X, X = x := ⟨_, rfl⟩
    obtain ⟨f0, f1, hX⟩ : ∃ f0 f1, X.1 = ⟨f0, f1⟩ := ⟨_, _, rfl⟩
    obtain ⟨k, q, hkq, hqs, hx⟩ := X.2
    rw [hX] at hx
    simp only [S27.mk.injEq] at hx
    obtain ⟨hx0, hx1⟩ := hx
    rw [← hXx, hX]
    clear hXx x
    have hsz : f1.size = q - k := by rw [hx1, ByteArray.size_extract]; omega
    have hpos : 0 < f1.size := by omega
    have hle : f1.size ≤ 1000000 := by omega
    have hbr := bt_range f1 0
    have hbt : ((f1[0].toNat : Nat) : Int) = bt f1 0 := by simp [bt, hpos]
    have hcls : classB (bt f1 0) = classP (bt f1 0) := classB_eq _ hbr.1 (by omega)
    have hstep : caseRuns (valsR pre ++ [⟨f0, f1⟩]) 0 0 false = caseRuns [⟨f0, f1⟩] sm rs fi := by rw [caseRuns_append, h1]; rfl
    have hv : valsR (pre ++ [X]) = valsR pre ++ [⟨f0, f1⟩] := by rw [valsR_snoc, hX]
    rw [← hv] at hstep
    clear hv
    have HX := Lib.hid hX
    clear hX
    simp only [caseRuns] at hstep
    obtain ⟨c, hc⟩ : ∃ c, classP (bt f1 0) = c := ⟨_, rfl⟩
    rw [hc] at hstep hcls
    have Hs := Lib.hid hstep
    have Hc := Lib.hid hcls
    have H1 := Lib.hid h1
    have Hx0 := Lib.hid hx0
    have Hx1 := Lib.hid hx1
    have Hsz := Lib.hid hsz
    have Hc2 := Lib.hid hc
    clear hstep hcls h1 hx0 hx1 hsz hc
    gi_wp2_with fail
    refine ⟨trivial, (CallsIn.inRound l (callsIn_wide.2 (class_calls (bt f1 0) _ hbr.1 (by omega)))).mono ?_⟩
    rintro e w2 ⟨rfl, hb2⟩
    rw [Hc.out]
    have j0 := boxed_below k0 hb2
    have j1 := boxed_below k1 hb2
    have j2 := boxed_below k2 hb2
    have j3 := boxed_below k3 hb2
    clear e0 e0f e1 e1f e2 e2f e3 e3f k0 k1 k2 k3
    have hB2 : Below w.heap.size w w2 := hb.trans (hb2.mono hb.size)
    have hpl : (pre ++ [X]).length = pre.length + 1 := by simp
    have KF0 : KeepsFrom W0.heap.size W w2 := keepsFrom_below hb2
    have KB0 : KB (w.heap.size + 1 + 1 + 1 + 1) W w2 := hb2.block _ (by omega)
    have HPL := Lib.hid hpl
    clear hpl
    have e0 := j0.cell
    have e0f := j0.frozen
    have e1 := j1.cell
    have e1f := j1.frozen
    have e2 := j2.cell
    have e2f := j2.frozen
    have e3 := j3.cell
    have e3f := j3.frozen
    have i0 : IsBox w2 _ _ := ⟨_, j0⟩
    have i1 : IsBox w2 _ _ := ⟨_, j1⟩
    have i2 : IsBox w2 _ _ := ⟨_, j2⟩
    have i3 : IsBox w2 _ _ := ⟨_, j3⟩
    have n01 : w.heap.size ≠ w.heap.size + 1 := by omega
    have n02 : w.heap.size ≠ w.heap.size + 1 + 1 := by omega
    have n03 : w.heap.size ≠ w.heap.size + 1 + 1 + 1 := by omega
    have n10 : w.heap.size + 1 ≠ w.heap.size := by omega
    have n12 : w.heap.size + 1 ≠ w.heap.size + 1 + 1 := by omega
    have n13 : w.heap.size + 1 ≠ w.heap.size + 1 + 1 + 1 := by omega
    have n20 : w.heap.size + 1 + 1 ≠ w.heap.size := by omega
    have n21 : w.heap.size + 1 + 1 ≠ w.heap.size + 1 := by omega
    have n23 : w.heap.size + 1 + 1 ≠ w.heap.size + 1 + 1 + 1 := by omega
    have n30 : w.heap.size + 1 + 1 + 1 ≠ w.heap.size := by omega
    have n31 : w.heap.size + 1 + 1 + 1 ≠ w.heap.size + 1 := by omega
    have n32 : w.heap.size + 1 + 1 + 1 ≠ w.heap.size + 1 + 1 := by omega
    have m40 : w.heap.size + 1 + 1 + 1 + 1 ≠ w.heap.size := by omega
    have m41 : w.heap.size + 1 + 1 + 1 + 1 ≠ w.heap.size + 1 := by omega
    have m42 : w.heap.size + 1 + 1 + 1 + 1 ≠ w.heap.size + 1 + 1 := by omega
    have m43 : w.heap.size + 1 + 1 + 1 + 1 ≠ w.heap.size + 1 + 1 + 1 := by omega
    have l0 : w.heap.size ≤ w.heap.size := by omega
    have l1 : w.heap.size ≤ w.heap.size + 1 := by omega
    have l2 : w.heap.size ≤ w.heap.size + 1 + 1 := by omega
    have l3 : w.heap.size ≤ w.heap.size + 1 + 1 + 1 := by omega
    by_cases c1 : c = 1
    · have c1b : (c == 1) = true := beq_iff_eq.2 c1
      have Hq := Lib.hid c1
      clear c1
      gi_wp2
      have hpl := HPL.out
      exact ⟨(by repeat (with_reducible first | exact KF0 | apply keepsFrom_drew | apply keepsFrom_set)), (by repeat (with_reducible first | exact KB0 | apply kb_drew | refine kb_set1 ?_ m40 _ | refine kb_set1 ?_ m41 _ | refine kb_set1 ?_ m42 _ | refine kb_set1 ?_ m43 _)), ⟨sm + f1.size, rs, fi, by rw [Hs.out, if_pos Hq.out], by omega, by rw [hpl]; omega, by rw [hpl]; omega, by rw [hpl]; omega, (by repeat (with_reducible first | exact j0 | exact j1 | exact j2 | exact j3 | exact i0 | exact i1 | exact i2 | exact i3 | apply boxed_drew | apply boxed_set1 | apply isBox_set | apply isBox_drew | refine Boxed.other ?_ n01 _ | refine Boxed.other ?_ n02 _ | refine Boxed.other ?_ n03 _ | refine Boxed.other ?_ n10 _ | refine Boxed.other ?_ n12 _ | refine Boxed.other ?_ n13 _ | refine Boxed.other ?_ n20 _ | refine Boxed.other ?_ n21 _ | refine Boxed.other ?_ n23 _ | refine Boxed.other ?_ n30 _ | refine Boxed.other ?_ n31 _ | refine Boxed.other ?_ n32 _)), (by repeat (with_reducible first | exact j0 | exact j1 | exact j2 | exact j3 | exact i0 | exact i1 | exact i2 | exact i3 | apply boxed_drew | apply boxed_set1 | apply isBox_set | apply isBox_drew | refine Boxed.other ?_ n01 _ | refine Boxed.other ?_ n02 _ | refine Boxed.other ?_ n03 _ | refine Boxed.other ?_ n10 _ | refine Boxed.other ?_ n12 _ | refine Boxed.other ?_ n13 _ | refine Boxed.other ?_ n20 _ | refine Boxed.other ?_ n21 _ | refine Boxed.other ?_ n23 _ | refine Boxed.other ?_ n30 _ | refine Boxed.other ?_ n31 _ | refine Boxed.other ?_ n32 _)), (by repeat (with_reducible first | exact j0 | exact j1 | exact j2 | exact j3 | exact i0 | exact i1 | exact i2 | exact i3 | apply boxed_drew | apply boxed_set1 | apply isBox_set | apply isBox_drew | refine Boxed.other ?_ n01 _ | refine Boxed.other ?_ n02 _ | refine Boxed.other ?_ n03 _ | refine Boxed.other ?_ n10 _ | refine Boxed.other ?_ n12 _ | refine Boxed.other ?_ n13 _ | refine Boxed.other ?_ n20 _ | refine Boxed.other ?_ n21 _ | refine Boxed.other ?_ n23 _ | refine Boxed.other ?_ n30 _ | refine Boxed.other ?_ n31 _ | refine Boxed.other ?_ n32 _))⟩, (by repeat (with_reducible first | exact j0 | exact j1 | exact j2 | exact j3 | exact i0 | exact i1 | exact i2 | exact i3 | apply boxed_drew | apply boxed_set1 | apply isBox_set | apply isBox_drew | refine Boxed.other ?_ n01 _ | refine Boxed.other ?_ n02 _ | refine Boxed.other ?_ n03 _ | refine Boxed.other ?_ n10 _ | refine Boxed.other ?_ n12 _ | refine Boxed.other ?_ n13 _ | refine Boxed.other ?_ n20 _ | refine Boxed.other ?_ n21 _ | refine Boxed.other ?_ n23 _ | refine Boxed.other ?_ n30 _ | refine Boxed.other ?_ n31 _ | refine Boxed.other ?_ n32 _)), (by repeat (with_reducible first | exact hB2 | apply below_drew | refine below_set1 ?_ l0 _ | refine below_set1 ?_ l1 _ | refine below_set1 ?_ l2 _ | refine below_set1 ?_ l3 _)), Nat.le_trans hw5 (KeepsFrom.size (B := W0.heap.size) (by repeat (with_reducible first | exact KF0 | apply keepsFrom_drew | apply keepsFrom_set)))⟩
    · have c1b : (c == 1) = false := beq_eq_false_iff_ne.2 c1
      by_cases c2 : c = 2
      · have c2b : (c == 2) = true := beq_iff_eq.2 c2
        have Hq := Lib.hid c2
        clear c2
        by_cases h0 : f0 = 0
        · have h0b : (f0 == 0) = true := beq_iff_eq.2 h0
          have Hq0 := Lib.hid h0
          clear h0
          have hwr : IntKind.i64.wrap (rs + (f1.size : Int) - 1) = rs + (f1.size : Int) - 1 := IntWalk.i64_in _ (by omega)
          have hmx : Try.prog.follows .mixedOrders = true := by kernel_rfl
          gi_wp2
          gi_region_with_o (fail)
          all_goals gi_wp2
          all_goals have hpl := HPL.out
          all_goals (exact ⟨(by repeat (with_reducible first | exact KF0 | apply keepsFrom_drew | apply keepsFrom_set)), (by repeat (with_reducible first | exact KB0 | apply kb_drew | refine kb_set1 ?_ m40 _ | refine kb_set1 ?_ m41 _ | refine kb_set1 ?_ m42 _ | refine kb_set1 ?_ m43 _)), ⟨sm, rs + f1.size - 1, true, by rw [Hs.out, if_neg (by rw [Hq.out]; decide), if_pos Hq.out, if_pos Hq0.out], by omega, by rw [hpl]; omega, by rw [hpl]; omega, by rw [hpl]; omega, (by repeat (with_reducible first | exact j0 | exact j1 | exact j2 | exact j3 | exact i0 | exact i1 | exact i2 | exact i3 | apply boxed_drew | apply boxed_set1 | apply isBox_set | apply isBox_drew | refine Boxed.other ?_ n01 _ | refine Boxed.other ?_ n02 _ | refine Boxed.other ?_ n03 _ | refine Boxed.other ?_ n10 _ | refine Boxed.other ?_ n12 _ | refine Boxed.other ?_ n13 _ | refine Boxed.other ?_ n20 _ | refine Boxed.other ?_ n21 _ | refine Boxed.other ?_ n23 _ | refine Boxed.other ?_ n30 _ | refine Boxed.other ?_ n31 _ | refine Boxed.other ?_ n32 _)), (by repeat (with_reducible first | exact j0 | exact j1 | exact j2 | exact j3 | exact i0 | exact i1 | exact i2 | exact i3 | apply boxed_drew | apply boxed_set1 | apply isBox_set | apply isBox_drew | refine Boxed.other ?_ n01 _ | refine Boxed.other ?_ n02 _ | refine Boxed.other ?_ n03 _ | refine Boxed.other ?_ n10 _ | refine Boxed.other ?_ n12 _ | refine Boxed.other ?_ n13 _ | refine Boxed.other ?_ n20 _ | refine Boxed.other ?_ n21 _ | refine Boxed.other ?_ n23 _ | refine Boxed.other ?_ n30 _ | refine Boxed.other ?_ n31 _ | refine Boxed.other ?_ n32 _)), (by repeat (with_reducible first | exact j0 | exact j1 | exact j2 | exact j3 | exact i0 | exact i1 | exact i2 | exact i3 | apply boxed_drew | apply boxed_set1 | apply isBox_set | apply isBox_drew | refine Boxed.other ?_ n01 _ | refine Boxed.other ?_ n02 _ | refine Boxed.other ?_ n03 _ | refine Boxed.other ?_ n10 _ | refine Boxed.other ?_ n12 _ | refine Boxed.other ?_ n13 _ | refine Boxed.other ?_ n20 _ | refine Boxed.other ?_ n21 _ | refine Boxed.other ?_ n23 _ | refine Boxed.other ?_ n30 _ | refine Boxed.other ?_ n31 _ | refine Boxed.other ?_ n32 _))⟩, (by repeat (with_reducible first | exact j0 | exact j1 | exact j2 | exact j3 | exact i0 | exact i1 | exact i2 | exact i3 | apply boxed_drew | apply boxed_set1 | apply isBox_set | apply isBox_drew | refine Boxed.other ?_ n01 _ | refine Boxed.other ?_ n02 _ | refine Boxed.other ?_ n03 _ | refine Boxed.other ?_ n10 _ | refine Boxed.other ?_ n12 _ | refine Boxed.other ?_ n13 _ | refine Boxed.other ?_ n20 _ | refine Boxed.other ?_ n21 _ | refine Boxed.other ?_ n23 _ | refine Boxed.other ?_ n30 _ | refine Boxed.other ?_ n31 _ | refine Boxed.other ?_ n32 _)), (by repeat (with_reducible first | exact hB2 | apply below_drew | refine below_set1 ?_ l0 _ | refine below_set1 ?_ l1 _ | refine below_set1 ?_ l2 _ | refine below_set1 ?_ l3 _)), Nat.le_trans hw5 (KeepsFrom.size (B := W0.heap.size) (by repeat (with_reducible first | exact KF0 | apply keepsFrom_drew | apply keepsFrom_set)))⟩)
        · have h0b : (f0 == 0) = false := beq_eq_false_iff_ne.2 h0
          gi_wp2
          have hpl := HPL.out
          exact ⟨(by repeat (with_reducible first | exact KF0 | apply keepsFrom_drew | apply keepsFrom_set)), (by repeat (with_reducible first | exact KB0 | apply kb_drew | refine kb_set1 ?_ m40 _ | refine kb_set1 ?_ m41 _ | refine kb_set1 ?_ m42 _ | refine kb_set1 ?_ m43 _)), ⟨sm, rs + f1.size, fi, by rw [Hs.out, if_neg (by rw [Hq.out]; decide), if_pos Hq.out, if_neg h0], by omega, by rw [hpl]; omega, by rw [hpl]; omega, by rw [hpl]; omega, (by repeat (with_reducible first | exact j0 | exact j1 | exact j2 | exact j3 | exact i0 | exact i1 | exact i2 | exact i3 | apply boxed_drew | apply boxed_set1 | apply isBox_set | apply isBox_drew | refine Boxed.other ?_ n01 _ | refine Boxed.other ?_ n02 _ | refine Boxed.other ?_ n03 _ | refine Boxed.other ?_ n10 _ | refine Boxed.other ?_ n12 _ | refine Boxed.other ?_ n13 _ | refine Boxed.other ?_ n20 _ | refine Boxed.other ?_ n21 _ | refine Boxed.other ?_ n23 _ | refine Boxed.other ?_ n30 _ | refine Boxed.other ?_ n31 _ | refine Boxed.other ?_ n32 _)), (by repeat (with_reducible first | exact j0 | exact j1 | exact j2 | exact j3 | exact i0 | exact i1 | exact i2 | exact i3 | apply boxed_drew | apply boxed_set1 | apply isBox_set | apply isBox_drew | refine Boxed.other ?_ n01 _ | refine Boxed.other ?_ n02 _ | refine Boxed.other ?_ n03 _ | refine Boxed.other ?_ n10 _ | refine Boxed.other ?_ n12 _ | refine Boxed.other ?_ n13 _ | refine Boxed.other ?_ n20 _ | refine Boxed.other ?_ n21 _ | refine Boxed.other ?_ n23 _ | refine Boxed.other ?_ n30 _ | refine Boxed.other ?_ n31 _ | refine Boxed.other ?_ n32 _)), (by repeat (with_reducible first | exact j0 | exact j1 | exact j2 | exact j3 | exact i0 | exact i1 | exact i2 | exact i3 | apply boxed_drew | apply boxed_set1 | apply isBox_set | apply isBox_drew | refine Boxed.other ?_ n01 _ | refine Boxed.other ?_ n02 _ | refine Boxed.other ?_ n03 _ | refine Boxed.other ?_ n10 _ | refine Boxed.other ?_ n12 _ | refine Boxed.other ?_ n13 _ | refine Boxed.other ?_ n20 _ | refine Boxed.other ?_ n21 _ | refine Boxed.other ?_ n23 _ | refine Boxed.other ?_ n30 _ | refine Boxed.other ?_ n31 _ | refine Boxed.other ?_ n32 _))⟩, (by repeat (with_reducible first | exact j0 | exact j1 | exact j2 | exact j3 | exact i0 | exact i1 | exact i2 | exact i3 | apply boxed_drew | apply boxed_set1 | apply isBox_set | apply isBox_drew | refine Boxed.other ?_ n01 _ | refine Boxed.other ?_ n02 _ | refine Boxed.other ?_ n03 _ | refine Boxed.other ?_ n10 _ | refine Boxed.other ?_ n12 _ | refine Boxed.other ?_ n13 _ | refine Boxed.other ?_ n20 _ | refine Boxed.other ?_ n21 _ | refine Boxed.other ?_ n23 _ | refine Boxed.other ?_ n30 _ | refine Boxed.other ?_ n31 _ | refine Boxed.other ?_ n32 _)), (by repeat (with_reducible first | exact hB2 | apply below_drew | refine below_set1 ?_ l0 _ | refine below_set1 ?_ l1 _ | refine below_set1 ?_ l2 _ | refine below_set1 ?_ l3 _)), Nat.le_trans hw5 (KeepsFrom.size (B := W0.heap.size) (by repeat (with_reducible first | exact KF0 | apply keepsFrom_drew | apply keepsFrom_set)))⟩
      · have c2b : (c == 2) = false := beq_eq_false_iff_ne.2 c2
        gi_wp2
        exact ⟨(by repeat (with_reducible first | exact KF0 | apply keepsFrom_drew | apply keepsFrom_set)), rfl, by rw [Hs.out, if_neg c1, if_neg c2], (by repeat (with_reducible first | exact j0 | exact j1 | exact j2 | exact j3 | exact i0 | exact i1 | exact i2 | exact i3 | apply boxed_drew | apply boxed_set1 | apply isBox_set | apply isBox_drew | refine Boxed.other ?_ n01 _ | refine Boxed.other ?_ n02 _ | refine Boxed.other ?_ n03 _ | refine Boxed.other ?_ n10 _ | refine Boxed.other ?_ n12 _ | refine Boxed.other ?_ n13 _ | refine Boxed.other ?_ n20 _ | refine Boxed.other ?_ n21 _ | refine Boxed.other ?_ n23 _ | refine Boxed.other ?_ n30 _ | refine Boxed.other ?_ n31 _ | refine Boxed.other ?_ n32 _)), (by repeat (with_reducible first | exact hB2 | apply below_drew | refine below_set1 ?_ l0 _ | refine below_set1 ?_ l1 _ | refine below_set1 ?_ l2 _ | refine below_set1 ?_ l3 _))⟩
  case done =>
    rintro D ys W hD hys ⟨⟨sm, rs, fi, h1, h2, h3, h4, h5, k1, k2, k3⟩, k0, hb, hw5⟩ hK
    rw [hys] at h1
    have H1 := Lib.hid h1
    have HK := Lib.hid hK
    clear h1 hK hys
    have e0 := k0.cell
    have e0f := k0.frozen
    have e1 := k1.cell
    have e2 := k2.cell
    have e3 := k3.cell
    gi_wp2
    all_goals refine case_end _ _ _ _ _ ?_ _ k0 (by omega) hb HK.out _ rfl rfl
    all_goals rw [H1.out]
    all_goals simp only [caseOut]
    all_goals clear k1 k2 k3 k0 hb hw5 e0 e0f e1 e2 e3 HK H1 b0 b1 b2 b3 b4 hB0
    all_goals simp only [empty_size, decide_eq_true_eq, decide_eq_false_iff_not, beq_iff_eq, beq_eq_false_iff_ne, Bool.not_eq_true] at *
    all_goals simp_all
  case stop =>
    rintro D c pre W hD hpre ⟨rfl, h2, k0, hb⟩ hK
    have hnone : caseRuns (runsL s s.size 0) 0 0 false = none := by
      obtain ⟨ys, hys⟩ := hpre
      rw [← hys, caseRuns_append, h2]; rfl
    have e0 := k0.cell
    have HN := Lib.hid hnone
    clear hnone h2 hpre
    gi_wp2
    refine ⟨by simp, .inl ⟨_, _, rfl, run_takeDeferred hK, ?_⟩⟩
    have p0 := (k0.kept (grownBy_putObj' W D (.deferred none)) (by simp; omega)).cell
    refine ⟨.int .i64 0, by simp [results, Try.results28, go_sem, p0], by rw [HN.out]; rfl, hb.trans (belowK_b (w := w) (Nat.le_refl _) W D _ _ (by omega) hK rfl rfl)⟩

/-- chars.Case -/
def chars_Case.f (a0 : ByteArray) : Option Int := if a0.size ≤ 1000000 then some (caseOut a0 (caseRuns (runsL a0 a0.size 0) 0 0 false)) else none
theorem chars_Case.calls (a0 : ByteArray) (r : Int) (w : World) (h : chars_Case.f a0 = some r) :
    Calls Try.prog 28 #[.string a0] w fun e w' => e = .returned (.int .i64 r) ∧ Below w.heap.size w w' := by
  unfold chars_Case.f at h
  split at h
  · rename_i hc
    obtain rfl := Option.some.inj h
    exact callsIn_wide.1 (case_in a0 hc w)
  · cases h
end Go.Proofs.Ythcmfjpheanphaa.Pr
