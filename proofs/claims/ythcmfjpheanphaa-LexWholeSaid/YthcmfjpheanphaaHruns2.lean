import Derived.Test.YthcmfjpheanphaaHruns
import Derived.Maps.AppendAt
namespace Go.Proofs.Ythcmfjpheanphaa.Pr
open Go.RowKit Go.Shelf Go.Proofs.YthcmfjpheanphaaW.PrintWords
attribute [local go_sem] Oper.semAt_some

theorem runs_stops (n : Nat) (hn : 1 ≤ n) (Bs : Nat) (s : ByteArray) (hs : s.size ≤ 9223372036854775807) (w : World) (hb : Boxed w Bs 9 (.string s)) :
    SeqStopsK Fence.wide n Try.prog 79 #[.pointer (some ⟨Bs, 0, none⟩)] (encR (s := s)) (KB Bs) (fun ys => valsR ys = runsL s s.size 0) (fun pre => valsR pre <+: runsL s s.size 0) s.size w := fun l J Jx W hW hJ _ hY h0 =>
  runs1_in n hn l Bs s hs J Jx W hJ hY (boxed_below hb hW) h0

set_option maxHeartbeats 400000 in
theorem runs_in (s : ByteArray) (n : Nat) (w : World) :
    CallsIn Fence.wide n Try.prog 25 #[.string s] w fun e w' => e = .returned (.func (.func 79) #[] #[.pointer (some ⟨w.heap.size, 0, none⟩)]) ∧ w' = w.alloc (.cells #[.string s] 9) := by
  refine callsIn_of_wp Try.func25 rfl trivial ?_ rfl
  simp only [Try.ntmps25, List.size_toArray, List.length_cons, List.length_nil, Nat.reduceAdd, Nat.reduceSub, Array.replicate_succ, Array.replicate_zero, List.push_toArray, List.append_toArray, List.nil_append, List.cons_append]
  gi_wp2
  go_ret
  exact ⟨rfl, rfl⟩

/-- runs, as their cells -/
def flatR (xs : List S27) : List Value := xs.flatMap fun x => [.int .i64 x.f0, .string x.f1]
theorem flatR_length (xs : List S27) : (flatR xs).length = xs.length * 2 := by
  induction xs with
  | nil => rfl
  | cons x xs ih => simp [flatR] at ih ⊢; omega
theorem flatR_snoc (xs : List S27) (x : S27) : flatR (xs ++ [x]) = flatR xs ++ [.int .i64 x.f0, .string x.f1] := by simp [flatR]
theorem flatR_at (xs : List S27) : ∀ (j : Nat) (p : S27), xs[j]? = some p → ((flatR xs).drop (j * 2)).take 2 = [.int .i64 p.f0, .string p.f1] := by
  induction xs with
  | nil => intro j p h; simp at h
  | cons x xs ih =>
    intro j p h
    cases j with
    | zero => simp at h; subst h; simp [flatR]
    | succ j =>
      have := ih j p (by simpa using h)
      rw [Nat.succ_mul]
      simp only [flatR, List.flatMap_cons] at this ⊢
      rw [show ∀ l : List Value, (([.int .i64 x.f0, .string x.f1] : List Value) ++ l).drop (j * 2 + 2) = l.drop (j * 2) from fun l => rfl]
      exact this
theorem own_R27 {w : World} {base : Nat} {v : Value} {xs : List S27} (h : w.ownsRow base 27 2 v xs.length (flatR xs)) (b' : Nat) (hb : b' ≤ base) : Kd.R k27 27 w b' (fun _ => True) v xs := by
  refine Kd.R_lower (base := base) ⟨fun _ _ => trivial, flatR xs, h, flatR_length xs, fun j p hp => ?_⟩ hb
  have := flatR_at xs j p hp
  show k27.M _ _ _ _ (((flatR xs).drop (j * 2)).take 2)
  rw [this]
  exact k27_mkM _ _ _ _


theorem boxed_own' {β : Type} (B : Nat) (t : TypeId) (v : Value) : Own (fun (_ : β) W => Boxed W B t v) := boxed_own B t (fun _ => v)
theorem cells_new (w : World) (cs : List Value) (t : TypeId) : ∀ j u, cs[j]? = some u → (w.alloc (.cells cs.toArray t)).cell? ((⟨w.heap.size, 0, none⟩ : Addr).add j) = some u := by
  intro j u hj
  rw [add_plain]
  simp only [World.cell?, heap_new]
  simpa using hj
theorem eq_nilFunc (w : World) (f : FuncId) (a b : Array Value) : (binOp .eql 30 (.func (.func f) a b) .nilFunc).run Try.prog w = .ok (.bool false) w := by
  kernel_rfl
theorem info27h : (Try.prog.info? 27).map (fun i => (i.zero, i.size, i.bytes)) = some (some (.agg #[(.int .i64 0), (.string ⟨#[]⟩)]), 2, 24) := by kernel_rfl

set_option maxRecDepth 100000 in
set_option maxHeartbeats 4000000 in
theorem lawruns_in (s : ByteArray) (hs : s.size ≤ 1000000) (w : World) :
    CallsIn Fence.wide 3 Try.prog 23 #[.string s] w fun e W' => ∃ v, e = .returned (.tuple #[v, .bool true]) ∧ Kd.R k27 27 W' w.heap.size (fun _ => True) v (runsL s s.size 0) ∧ Below w.heap.size w W' := by
  obtain ⟨i0, hi, hz0, hz1, hz2⟩ := info_parts info27h
  have hq := fun w a b => eq_nilFunc w 79 a b
  refine callsIn_of_wp_marks Try.func23 rfl trivial ?_ rfl
  simp only [Try.ntmps23, List.size_toArray, List.length_cons, List.length_nil, Nat.reduceAdd, Nat.reduceSub, Array.replicate_succ, Array.replicate_zero, List.push_toArray, List.append_toArray, List.nil_append, List.cons_append]
  gi_wp2_with (refine ⟨trivial, ?_⟩; gi_at_call 25; refine (runs_in s _ _).mono ?_; rintro e w' ⟨rfl, rfl⟩)
  have b0 := Boxed.new w 9 (.string s)
  have b1 := Boxed.new (w.alloc (.cells #[.string s] 9)) 23 (.slice none 0 0)
  have b2 := Boxed.new ((w.alloc (.cells #[.string s] 9)).alloc (.cells #[.slice none 0 0] 23)) 4 (.bool false)
  have b3 := Boxed.new (((w.alloc (.cells #[.string s] 9)).alloc (.cells #[.slice none 0 0] 23)).alloc (.cells #[.bool false] 4)) 9 (.string s)
  have b4 := Boxed.new ((((w.alloc (.cells #[.string s] 9)).alloc (.cells #[.slice none 0 0] 23)).alloc (.cells #[.bool false] 4)).alloc (.cells #[.string s] 9)) 23 (.slice none 0 0)
  replace b0 := (((b0.alloc (.cells #[.slice none 0 0] 23)).alloc (.cells #[.bool false] 4)).alloc (.cells #[.string s] 9)).alloc (.cells #[.slice none 0 0] 23)
  replace b1 := ((b1.alloc (.cells #[.bool false] 4)).alloc (.cells #[.string s] 9)).alloc (.cells #[.slice none 0 0] 23)
  replace b2 := (b2.alloc (.cells #[.string s] 9)).alloc (.cells #[.slice none 0 0] 23)
  replace b3 := b3.alloc (.cells #[.slice none 0 0] 23)
  have hB0 : Below w.heap.size w (((((w.alloc (.cells #[.string s] 9)).alloc (.cells #[.slice none 0 0] 23)).alloc (.cells #[.bool false] 4)).alloc (.cells #[.string s] 9)).alloc (.cells #[.slice none 0 0] 23)) :=
    (((((Below.refl _ w).alloc (Nat.le_refl _) _).alloc (by simp) _).alloc (by simp; omega) _).alloc (by simp; omega) _).alloc (by simp; omega) _
  have hz : (((((w.alloc (.cells #[.string s] 9)).alloc (.cells #[.slice none 0 0] 23)).alloc (.cells #[.bool false] 4)).alloc (.cells #[.string s] 9)).alloc (.cells #[.slice none 0 0] 23)).heap.size = w.heap.size + 5 := by simp
  simp only [World.size_alloc] at b0 b1 b2 b3 b4
  obtain ⟨W0, hW0⟩ : ∃ W0, (((((w.alloc (.cells #[.string s] 9)).alloc (.cells #[.slice none 0 0] 23)).alloc (.cells #[.bool false] 4)).alloc (.cells #[.string s] 9)).alloc (.cells #[.slice none 0 0] 23)) = W0 := ⟨_, rfl⟩
  rw [hW0] at b0 b1 b2 b3 b4 hB0 hz ⊢
  clear hW0
  refine wpIn_rangeFunc_ownG rfl (by omega) (gf := 79) (lb := #[.pointer (some ⟨w.heap.size + 1 + 1 + 1, 0, none⟩)]) rfl trivial (enters_of Try.func79 (by kernel_rfl) rfl)
    (runs_stops _ (by omega) (w.heap.size + 1 + 1 + 1) s (by omega) W0 b3) KB_t (KB_b (by omega)) (Below.refl _ _) (fun _ => rfl)
    (fun pre W => (∃ v, Boxed W (w.heap.size + 1 + 1 + 1 + 1) 23 v ∧ W.ownsRow (w.heap.size + 4) 27 2 v pre.length (flatR (valsR pre)) ∧ True) ∧ (Boxed W w.heap.size 9 (.string s) ∧ Boxed W (w.heap.size + 1) 23 (.slice none 0 0) ∧ Boxed W (w.heap.size + 1 + 1) 4 (.bool false)) ∧ Below w.heap.size w W)
    (fun _ _ _ => False)
    (OwnFrom.and (Own.from (holdsRow_own (w.heap.size + 4) (w.heap.size + 1 + 1 + 1 + 1) 23 27 2 (fun pre => pre.length) (fun pre => flatR (valsR pre)) (fun _ _ => True)) _) (OwnFrom.and (OwnFrom.and (Own.from (boxed_own' _ _ _) _) (OwnFrom.and (Own.from (boxed_own' _ _ _) _) (Own.from (boxed_own' _ _ _) _))) (ownFrom_below (Nat.le_refl _) (by omega))))
    (fun _ _ _ _ _ hs _ _ => hs)
    ⟨⟨_, b4, World.ownsRow_nil _ _ _ _, trivial⟩, ⟨b0, b1, b2⟩, hB0⟩
    (fun x => { tmps := #[.string s, .pointer (some ⟨w.heap.size, 0, none⟩), .pointer (some ⟨w.heap.size + 1, 0, none⟩), .pointer (some ⟨w.heap.size + 1 + 1, 0, none⟩), .func (.func 79) #[] #[.pointer (some ⟨w.heap.size + 1 + 1 + 1, 0, none⟩)], .pointer (some ⟨w.heap.size + 1 + 1 + 1 + 1, 0, none⟩), .int .i64 x.1.f0, .string x.1.f1, .string s, .func (.func 79) #[] #[.pointer (some ⟨w.heap.size + 1 + 1 + 1, 0, none⟩)], .func (.func 79) #[] #[.pointer (some ⟨w.heap.size + 1 + 1 + 1, 0, none⟩)], .bool false, .func (.func 79) #[] #[.pointer (some ⟨w.heap.size + 1 + 1 + 1, 0, none⟩)], .int .i64 x.1.f0, .string x.1.f1, undef, undef, undef, undef, undef, undef, undef, undef, undef, undef, undef, undef, undef], defers := [] }) ?assign ?body ?done ?stop
  case assign =>
    intro l x W K hK
    gi_wp2
    exact hK
  case body =>
    rintro l pre x W ⟨⟨v, hv, hrow, -⟩, ⟨h0, h1, h2⟩, hB⟩ hlt
    have hc := hv.cell
    have hf := hv.frozen
    have hc0 := h0.cell
    have hn4 : w.heap.size + 4 ≤ W.heap.size := by have := hv.lt; omega
    have Hr := Lib.hid hrow
    clear hrow
    gi_wp2_with (gi_at_builtin; refine wpListIn_append_own _ rfl _ _ 23 rfl (w.heap.size + 4) 27 i0 (.agg #[(.int .i64 0), (.string ⟨#[]⟩)]) 2 24 Try.underlying23 hi hz0 hz1 hz2 rfl (by decide) _ _ _ rfl (Hr.out.alloc _) ⟨W.heap.size, 0, none⟩ 1 1 [.int .i64 x.1.f0, .string x.1.f1] rfl rfl ?c1 ?c2 ?c3 ?c4 ?c5 ?c6)
    case c1 => exact cells_new W [.int .i64 x.1.f0, .string x.1.f1] 27
    case c2 => simp [Value.oneCell']
    case c3 => unfold maxLen; omega
    case c4 => omega
    case c5 => simp; omega
    case c6 =>
      intro v' w1 hown' hgrow _
      obtain ⟨g', cap', rfl⟩ := ownsRow_succ hown'
      obtain ⟨hv1, hv2, hr2, hk2, hb2⟩ := hv.appended (by decide) Hr.out (show w.heap.size + 4 ≤ W.heap.size by omega) (by omega) hown' hgrow
      have hnr : ∀ (B : Nat), B < w.heap.size + 4 → some B ≠ v.ownBlock := by
        intro B hBl hB2
        have := own_base Hr.out B hB2.symm
        omega
      have k0 : Boxed (w1.setCell ⟨w.heap.size + 1 + 1 + 1 + 1, 0, none⟩ (Value.slice (some ⟨g', 0, none⟩) (pre.length + 1) cap')) w.heap.size 9 (.string s) := ((h0.alloc _).kept hgrow (hnr _ (by omega))).other (by omega) _
      have k1 : Boxed (w1.setCell ⟨w.heap.size + 1 + 1 + 1 + 1, 0, none⟩ (Value.slice (some ⟨g', 0, none⟩) (pre.length + 1) cap')) (w.heap.size + 1) 23 (.slice none 0 0) := ((h1.alloc _).kept hgrow (hnr _ (by omega))).other (by omega) _
      have k2 : Boxed (w1.setCell ⟨w.heap.size + 1 + 1 + 1 + 1, 0, none⟩ (Value.slice (some ⟨g', 0, none⟩) (pre.length + 1) cap')) (w.heap.size + 1 + 1) 4 (.bool false) := ((h2.alloc _).kept hgrow (hnr _ (by omega))).other (by omega) _
      have hc1 := hv1.cell
      have hf1 := hv1.frozen
      have hc2 := hv2.cell
      have hc3 := k0.cell
      have hno : (pre.length : Int) + 1 ≤ s.size := by omega
      have hno2 : decide ((s.size : Int) < (pre.length : Int) + 1) = false := by simp; omega
      gi_wp2
      exact ⟨hk2.from _, hb2.block _ (by omega), ⟨_, hv2, by rw [valsR_snoc, flatR_snoc]; simpa using hr2, trivial⟩, ⟨k0, k1, k2⟩, hB.trans (hb2.mono (by omega))⟩
  case done =>
    rintro D ys W hD hys ⟨⟨v, hv, hrow, -⟩, ⟨h0, h1, h2⟩, hB⟩ hK
    rw [hys, show ys.length = (runsL s s.size 0).length by rw [← hys]; simp [valsR]] at hrow
    clear hys
    obtain ⟨A, c, rfl⟩ := own_slice hrow
    have e1 := hv.cell
    have e2 := h1.cell
    have e3 := h1.frozen
    have e4 := h2.cell
    have e5 := h2.frozen
    have Hr := Lib.hid hrow
    have HK := Lib.hid hK
    clear hrow hK
    gi_wp2
    have hk2 : ((W.setCell ⟨w.heap.size + 1, 0, none⟩ (Value.slice A (runsL s s.size 0).length c)).setCell ⟨w.heap.size + 1 + 1, 0, none⟩ (.bool true)).heap[D]? = some (.deferred (some [])) := by
      rw [Below.heap_setCell _ _ _ _ (by simp; omega), Below.heap_setCell _ _ _ _ (by simp; omega)]; exact HK.out
    have q1 : Boxed ((W.setCell ⟨w.heap.size + 1, 0, none⟩ (Value.slice A (runsL s s.size 0).length c)).setCell ⟨w.heap.size + 1 + 1, 0, none⟩ (.bool true)) (w.heap.size + 1) 23 (Value.slice A (runsL s s.size 0).length c) := (h1.set _).other (by omega) _
    have q2 : Boxed ((W.setCell ⟨w.heap.size + 1, 0, none⟩ (Value.slice A (runsL s s.size 0).length c)).setCell ⟨w.heap.size + 1 + 1, 0, none⟩ (.bool true)) (w.heap.size + 1 + 1) 4 (.bool true) := (h2.other (by omega) _).set _
    have hne : ∀ B, B < w.heap.size + 4 → (Value.slice A (runsL s s.size 0).length c).ownBlock = none ∨ (Value.slice A (runsL s s.size 0).length c).ownBlock ≠ some B := by
      intro B hB'
      refine .inr fun e => ?_
      have := own_base Hr.out B e
      omega
    have hro := (Hr.out.kept (grownBy_setCell' W (w.heap.size + 1) (Value.slice A (runsL s s.size 0).length c)) (hne _ (by omega))).kept (grownBy_setCell' _ (w.heap.size + 1 + 1) (.bool true)) (hne _ (by omega))
    have hbel : Below w.heap.size w ((W.setCell ⟨w.heap.size + 1, 0, none⟩ (Value.slice A (runsL s s.size 0).length c)).setCell ⟨w.heap.size + 1 + 1, 0, none⟩ (.bool true)) := (hB.setCell (show w.heap.size ≤ w.heap.size + 1 by omega) _).setCell (show w.heap.size ≤ w.heap.size + 1 + 1 by omega) _
    clear e1 e2 e3 e4 e5 hv h0 h1 h2 hB b0 b1 b2 b3 b4
    generalize ((W.setCell ⟨w.heap.size + 1, 0, none⟩ (Value.slice A (runsL s s.size 0).length c)).setCell ⟨w.heap.size + 1 + 1, 0, none⟩ (.bool true)) = W2 at *
    refine ⟨by simp, .inl ⟨_, _, rfl, run_takeDeferred hk2, ?_⟩⟩
    have hbd : Below w.heap.size W2 (W2.putObj D (.deferred none)) := belowK_b (w := w) (Nat.le_refl _) W2 D (.deferred (some [])) (.deferred none) (by omega) hk2 rfl rfl
    have p1 := (q1.kept (grownBy_putObj' W2 D (.deferred none)) (by simp; omega)).cell
    have p2 := (q2.kept (grownBy_putObj' W2 D (.deferred none)) (by simp; omega)).cell
    refine ⟨_, ?_, _, rfl, own_R27 (ownsRow_putObj hro _ hk2 rfl) _ (by omega), hbel.trans hbd⟩
    simp [results, Try.results23, go_sem, p1, p2]
  case stop =>
    rintro D c pre W hD _ h _
    exact h.elim

/-- styluslaw01.runs -/
def styluslaw01_runs.f (a0 : ByteArray) : Option (List S27 × Bool) := if a0.size ≤ 1000000 then some (runsL a0 a0.size 0, true) else none
theorem styluslaw01_runs.calls (a0 : ByteArray) (r1 : List S27) (r2 : Bool) (w : World) (h : styluslaw01_runs.f a0 = some (r1, r2)) :
    Calls Try.prog 23 #[.string a0] w fun e w' => ∃ v0_ : Value, e = .returned (.tuple #[v0_, .bool r2]) ∧ Kd.R k27 27 w' w.heap.size (fun _ => True) v0_ r1 ∧ Below w.heap.size w w' := by
  unfold styluslaw01_runs.f at h
  split at h
  · rename_i hc
    have := Option.some.inj h
    simp only [Prod.mk.injEq] at this
    obtain ⟨rfl, rfl⟩ := this
    exact callsIn_wide.1 (lawruns_in a0 hc w)
  · cases h
end Go.Proofs.Ythcmfjpheanphaa.Pr
