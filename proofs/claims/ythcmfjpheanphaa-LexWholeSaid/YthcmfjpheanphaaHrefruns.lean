/- The document's Runs (stylusref01.Runs), walked by hand: what it comes to is 'refL s s.size'. -/
import Derived.Test.YthcmfjpheanphaaPr4
import Derived.Test.YthcmfjpheanphaaHruns2
import Derived.Test.YthcmfjpheanphaaHregion
import Derived.Test.YthcmfjpheanphaaHbase
namespace Go.Proofs.Ythcmfjpheanphaa.Pr
open Go.RowKit Go.Proofs.YthcmfjpheanphaaW.PrintWords
set_option linter.unusedVariables false
set_option linter.unusedSimpArgs false

theorem refClass_fin : ∀ n : Fin 256, stylusref01_Class.f 20 (n.val : Int) = some (classP (n.val : Int)) := by decide +kernel
theorem refClass_at (c : Int) (h0 : 0 ≤ c) (h1 : c ≤ 255) : stylusref01_Class.f 20 c = some (classP c) := by
  have := refClass_fin ⟨c.toNat, by omega⟩
  simpa only [Int.toNat_of_nonneg h0] using this
/-- the document's class, by a plain contract -/
theorem refClass_calls (c : Int) (h0 : 0 ≤ c) (h1 : c ≤ 255) (W : World) : Calls Try.prog 32 #[.int .u8 c] W fun e w' => e = .returned (.int .i64 (classP c)) ∧ Below W.heap.size W w' :=
  (stylusref01_Class.calls 20 c _ W (refClass_at c h0 h1)).mono fun _ _ ⟨he, hd⟩ => ⟨he, hd.below⟩

/-- one byte more -/
def refStep (s : ByteArray) (k : Nat) (L : List S27) : List S27 :=
  match L.getLast? with
  | some p => if clsAt s k = clsAt s (k - 1) then L.dropLast ++ [⟨p.f0, p.f1 ++ s.extract k (k + 1)⟩] else L ++ [⟨k, s.extract k (k + 1)⟩]
  | none => L ++ [⟨k, s.extract k (k + 1)⟩]
def refL (s : ByteArray) : Nat → List S27
  | 0 => []
  | k + 1 => refStep s k (refL s k)
theorem refL_length (s : ByteArray) : ∀ k, (refL s k).length ≤ k
  | 0 => Nat.le_refl _
  | k + 1 => by
    have ih := refL_length s k
    simp only [refL, refStep]
    cases h : (refL s k).getLast? with
    | none => simp; omega
    | some p =>
      simp only
      split
      · have : refL s k ≠ [] := fun e => by rw [e] at h; simp at h
        have := List.length_pos_iff.2 this
        simp; omega
      · simp; omega
theorem refStep_nil (s : ByteArray) (k : Nat) : refStep s k [] = [⟨k, s.extract k (k + 1)⟩] := rfl
theorem refStep_snoc (s : ByteArray) (k : Nat) (M : List S27) (p : S27) : refStep s k (M ++ [p]) = if clsAt s k = clsAt s (k - 1) then M ++ [⟨p.f0, p.f1 ++ s.extract k (k + 1)⟩] else (M ++ [p]) ++ [⟨k, s.extract k (k + 1)⟩] := by
  simp [refStep]
theorem flatR_setlast (M : List S27) (p : S27) (t : ByteArray) : (flatR (M ++ [p])).set (M.length * 2 + 1) (.string t) = flatR (M ++ [⟨p.f0, t⟩]) := by
  rw [flatR_snoc, flatR_snoc]
  have h := flatR_length M
  rw [List.set_append_right _ _ (by omega), h]
  simp [show M.length * 2 + 1 - M.length * 2 = 1 by omega]
theorem snoc_or_nil (L : List S27) : L = [] ∨ ∃ M p, L = M ++ [p] := by
  rcases List.eq_nil_or_concat L with h | ⟨M, p, h⟩
  · exact .inl h
  · exact .inr ⟨M, p, by simpa using h⟩


theorem refL_size (s : ByteArray) : ∀ k, ∀ x ∈ refL s k, x.f1.size ≤ k
  | 0, x, h => by simp [refL] at h
  | k + 1, x, h => by
    have ih := refL_size s k
    simp only [refL] at h
    rcases snoc_or_nil (refL s k) with hL | ⟨M, p, hL⟩
    · rw [hL, refStep_nil] at h
      simp only [List.mem_singleton] at h
      subst h
      show (s.extract k (k + 1)).size ≤ k + 1
      rw [ByteArray.size_extract]; omega
    · rw [hL, refStep_snoc] at h
      rw [hL] at ih
      split at h
      · rcases List.mem_append.1 h with h | h
        · have := ih x (List.mem_append_left _ h); omega
        · simp only [List.mem_singleton] at h
          subst h
          have := ih p (by simp)
          show (p.f1 ++ s.extract k (k + 1)).size ≤ k + 1
          rw [ByteArray.size_append, ByteArray.size_extract]; omega
      · rcases List.mem_append.1 h with h | h
        · have := ih x h; omega
        · simp only [List.mem_singleton] at h
          subst h
          show (s.extract k (k + 1)).size ≤ k + 1
          rw [ByteArray.size_extract]; omega

/-- the owned row behind an append, with what the loop's head wants -/
theorem refRuns_next {wr w' w : World} {L : List S27} {v v' : Value} {x : S27} {B : Nat} (hB : Below w.heap.size w wr) (hown : wr.ownsRow w.heap.size 27 2 v L.length (flatR L))
    (hn : w'.ownsRow w.heap.size 27 2 v' (L.length + 1) (flatR L ++ [.int .i64 x.f0, .string x.f1])) (W : World) (hW : Below wr.heap.size wr W) (hg : (W.alloc (.cells #[.int .i64 x.f0, .string x.f1] 27)).grownBy w' v.ownBlock) :
    w'.ownsRow w.heap.size 27 2 v' (L ++ [x]).length (flatR (L ++ [x])) ∧ Below w.heap.size w w' := by
  refine ⟨by rw [flatR_snoc]; simpa using hn, ?_⟩
  have h1 : Below w.heap.size w W := hB.trans (hW.mono hB.size)
  exact (h1.alloc h1.size _).grown hg (by have := h1.size; simp; omega) fun k hk => (hown.lt k hk).1

set_option pp.maxSteps 3000 in
set_option maxRecDepth 100000 in
set_option maxHeartbeats 4000000 in
theorem refRuns_walk (s : ByteArray) (hs : s.size ≤ 1000000) (w : World) :
    Calls Try.prog 31 #[.string s] w fun e w' => ∃ v, e = .returned v ∧ Kd.R k27 27 w' w.heap.size (fun _ => True) v (refL s s.size) ∧ Below w.heap.size w w' := by
  obtain ⟨i0, hi, hz0, hz1, hz2⟩ := info_parts info27h
  go_enter Try.func31, Try.ntmps31
  go_wp2
  go_loopw [3, 4] (fun v i wr => ∃ k : Nat, k ≤ s.size ∧ i = .int .i64 k ∧ wr.ownsRow w.heap.size 27 2 v (refL s k).length (flatR (refL s k)) ∧ Below w.heap.size w wr) (fun _ i _ => s.size - (intOf i).toNat)
  case atStart => exact ⟨0, Nat.zero_le _, rfl, World.ownsRow_nil _ _ _ _, Below.refl _ _⟩
  case round =>
    obtain ⟨k, hk, rfl, hown, hB⟩ := hrel
    have hll := refL_length s k
    have hsz := refL_size s k
    have hsucc : refL s (k + 1) = refStep s k (refL s k) := rfl
    by_cases hlt : k < s.size
    · have hn1 : (k : Int) < s.size := by omega
      have hn2 : k + 1 ≤ s.size := by omega
      have hsl := fun W => Go.Det.sl_str (P := Try.prog) Try.underlying9 s k (k + 1) (by omega) hn2 (a := k) (b := (k : Int) + 1) rfl (by omega) W
      generalize refL s k = L at *
      rcases snoc_or_nil L with rfl | ⟨M, p, rfl⟩
      · -- the first byte
        rw [refStep_nil] at hsucc
        have Hs := Lib.hid hsucc
        clear hsucc hll hsz
        have hown0 := Lib.hid hown
        obtain ⟨A, c0, rfl⟩ := own_slice hown
        simp only [List.length_nil] at hown ⊢
        go_wp2_with fail
        refine Go.Det.region_all (fun W => Below wr.heap.size wr W) (by kernel_rfl) (by kernel_rfl) (below_drew (Below.refl _ _)) ?_
        repeat (apply Go.Det.seqW_cons; focus (intro W hS; replace hS : Below wr.heap.size wr W := hS; go_wp2; exact Go.Det.AtEnd.mk hS))
        refine Go.Det.seqW_nil ?_
        intro W hS
        replace hS : Below wr.heap.size wr W := hS
        replace hown : W.ownsRow w.heap.size 27 2 (Value.slice A 0 c0) 0 (flatR []) := pw_own_below hown hS
        have hWs := hS.size
        simp only [Exit.then]
        go_wp2_with (at_builtin; go_loud (refine wpList_append_own _ rfl _ _ 23 rfl w.heap.size 27 i0 (.agg #[(.int .i64 0), (.string ⟨#[]⟩)]) 2 24 Try.underlying23 hi hz0 hz1 hz2 rfl (by decide) _ _ _ rfl (hown.alloc _) ⟨W.heap.size, 0, none⟩ 1 1 [.int .i64 k, .string (s.extract k (k + 1))] rfl rfl ?c1 ?c2 ?c3 ?c4 ?c5 ?c6))
        case c1 => exact cells_new W [.int .i64 k, .string (s.extract k (k + 1))] 27
        case c2 => simp [Value.oneCell']
        case c3 => unfold maxLen; omega
        case c4 => omega
        case c5 => have := hB.size; simp; omega
        case c6 =>
          intro v' w1 hown' hgrow _
          obtain ⟨q1, q2⟩ := refRuns_next (L := []) (x := ⟨k, s.extract k (k + 1)⟩) (B := 0) hB hown0.out hown' W hS hgrow
          clear hown hown' hgrow
          have Q1 := Lib.hid q1
          clear q1
          go_wp2
          go_roundw
          case rel => exact ⟨k + 1, by omega, by go_num, by rw [Hs.out]; exact Q1.out, q2⟩
          case measure => simp [intOf]; omega
      · -- a later byte
        obtain ⟨j, rfl⟩ : ∃ j, k = j + 1 := ⟨k - 1, by simp at hll; omega⟩
        rw [refStep_snoc, show j + 1 - 1 = j from rfl] at hsucc
        clear hsl
        have hpz := hsz p (by simp)
        clear hsz
        have hcat := fun W => run_string_add_sum (P := Try.prog) (w := W) p.f1 (s.extract (j + 1) (j + 1 + 1)) (by rw [ByteArray.size_extract]; omega)
        clear hpz
        have hsl := fun W => Go.Det.sl_str (P := Try.prog) Try.underlying9 s (j + 1) (j + 1 + 1) (by omega) hn2 (a := (j : Int) + 1) (b := (j : Int) + 1 + 1) (by omega) (by omega) W
        have hdec : (classP (bt s ((j + 1 : Nat) : Int)) = classP (bt s (j : Int)) ∧ Hid (refL s (j + 1 + 1) = M ++ [⟨p.f0, p.f1 ++ s.extract (j + 1) (j + 1 + 1)⟩])) ∨ ((classP (bt s ((j + 1 : Nat) : Int)) == classP (bt s (j : Int))) = false ∧ Hid (refL s (j + 1 + 1) = (M ++ [p]) ++ [⟨((j + 1 : Nat) : Int), s.extract (j + 1) (j + 1 + 1)⟩])) := by
          by_cases h : clsAt s (j + 1) = clsAt s j
          · exact .inl ⟨h, Lib.hid (hsucc.trans (if_pos h))⟩
          · exact .inr ⟨beq_eq_false_iff_ne.2 h, Lib.hid (hsucc.trans (if_neg h))⟩
        clear hsucc
        simp only [List.length_append, List.length_singleton] at hown hll ⊢
        obtain ⟨g, c0, rfl⟩ := ownsRow_succ hown
        have hown0 := Lib.hid hown
        have hcell : wr.cell? ⟨0, 0, none⟩ = none → True := fun _ => trivial
        have hjs : j < s.size := by omega
        have hb1 := bt_range s ((j + 1 : Nat) : Int)
        have hb0 := bt_range s j
        have hg1 : ((s[j + 1].toNat : Nat) : Int) = bt s ((j + 1 : Nat) : Int) := bt_at s ((j + 1 : Nat) : Int) (by simpa using hlt)
        have hg0 : ((s[j].toNat : Nat) : Int) = bt s j := bt_at s j (by simpa using hjs)
        have hc1 := fun W => refClass_calls _ hb1.1 hb1.2 W
        have hc0 := fun W => refClass_calls _ hb0.1 hb0.2 W
        generalize bt s ((j + 1 : Nat) : Int) = y1 at *
        generalize bt s (j : Int) = y0 at *
        have Hc1 := Lib.hid hc1
        have Hc0 := Lib.hid hc0
        clear hc1 hc0 hcell
        generalize classP y1 = d1 at *
        generalize classP y0 = d0 at *
        go_wp2_with fail
        refine Go.Det.region_all (fun W => Below wr.heap.size wr W) (by kernel_rfl) (by kernel_rfl) (below_drew (Below.refl _ _)) ?_
        repeat (apply Go.Det.seqW_cons; focus (intro W hS; replace hS : Below wr.heap.size wr W := hS; go_wp2_with (go_at_call 32; (first | (with_reducible refine (Hc1.out _).mono ?_) | (with_reducible refine (Hc0.out _).mono ?_)); rintro e w1 ⟨rfl, hb⟩; replace hS := hS.trans (hb.mono hS.size); clear hb); exact Go.Det.AtEnd.mk hS))
        refine Go.Det.seqW_nil ?_
        intro W hS
        replace hS : Below wr.heap.size wr W := hS
        replace hown := pw_own_below hown hS
        have hBW := hB.trans (hS.mono hB.size)
        simp only [Exit.then]
        rcases hdec with ⟨rfl, H1⟩ | ⟨hdec, H1⟩
        · -- of one class
          have hcellW : ∀ W', Below W.heap.size W W' → W'.cell? ⟨g, M.length * 2 + 1, none⟩ = some (.string p.f1) := fun W' hb => by
            have h1 := (pw_own_below hown hb).cellAt (M.length * 2 + 1) (by omega)
            rw [h1, flatR_snoc, List.getElem?_append_right (by rw [flatR_length]; omega), flatR_length]
            simp
          have HC := Lib.hid hcellW
          clear hcellW
          go_wp2_with fail
          refine Go.Det.region_det (fun W' => Below W.heap.size W W') 17 (by kernel_rfl) (by kernel_rfl) (by kernel_rfl) (by decide) (below_drew (Below.refl _ _)) ?_
          repeat (apply Go.Det.seqW_cons; focus (intro W' hS'; replace hS' : Below W.heap.size W W' := hS'; have hcc := HC.out W' hS'; go_wp2; exact Go.Det.AtEnd.mk hS'))
          refine Go.Det.seqW_nil ?_
          intro W' hS'
          replace hS' : Below W.heap.size W W' := hS'
          replace hown := pw_own_below hown hS'
          have hcc := HC.out W' hS'
          have hff := hown.frozenAt (M.length * 2 + 1)
          obtain ⟨n1, n2⟩ := hown.stored (M.length * 2 + 1) (.string (p.f1 ++ s.extract (j + 1) (j + 1 + 1)))
          rw [flatR_setlast] at n1
          have N1 := Lib.hid n1
          have hBW' := hBW.trans (hS'.mono hBW.size)
          have hgb := (hown.lt g rfl).1
          clear n1
          simp only [List.drop_succ_cons, List.drop_zero]
          go_wp2
          exact ⟨⟨j + 1 + 1, by omega, by go_num, by rw [H1.out]; simpa using N1.out, hBW'.setCell hgb _⟩, by simp [intOf]; omega⟩
        · -- of another class
          have hown1 := Lib.hid hown
          go_wp2_with (at_builtin; refine wpList_append_own _ rfl _ _ 23 rfl w.heap.size 27 i0 (.agg #[(.int .i64 0), (.string ⟨#[]⟩)]) 2 24 Try.underlying23 hi hz0 hz1 hz2 rfl (by decide) _ _ _ rfl (hown.alloc _) ⟨W.heap.size, 0, none⟩ 1 1 [.int .i64 ((j : Int) + 1), .string (s.extract (j + 1) (j + 1 + 1))] rfl rfl ?c1 ?c2 ?c3 ?c4 ?c5 ?c6)
          case c1 => exact cells_new W [.int .i64 ((j : Int) + 1), .string (s.extract (j + 1) (j + 1 + 1))] 27
          case c2 => simp [Value.oneCell']
          case c3 => unfold maxLen; omega
          case c4 => omega
          case c5 => have := hBW.size; simp; omega
          case c6 =>
            intro v' w1 hown' hgrow _
            obtain ⟨q1, q2⟩ := refRuns_next (L := M ++ [p]) (x := ⟨(j : Int) + 1, s.extract (j + 1) (j + 1 + 1)⟩) (v' := v') (w' := w1) (B := 0) hB (by simpa using hown0.out) (by simpa using hown') W hS hgrow
            clear hown hown' hgrow
            have Q1 := Lib.hid q1
            clear q1
            go_wp2
            refine ⟨⟨j + 1 + 1, by omega, by go_num, by rw [H1.out]; exact Q1.out, q2⟩, by simp [intOf]; omega⟩
    · have hks : k = s.size := by omega
      subst hks
      clear hsucc hll hsz
      have hown0 := Lib.hid hown
      clear hown
      go_wp2
      go_ret
      exact ⟨_, rfl, own_R27 hown0.out _ (Nat.le_refl _), hB⟩
/-- stylusref01.Runs -/
def stylusref01_Runs.f (a0 : ByteArray) : Option (List S27) := if a0.size ≤ 1000000 then some (refL a0 a0.size) else none
theorem stylusref01_Runs.calls (a0 : ByteArray) (r : List S27) (w : World) (h : stylusref01_Runs.f a0 = some r) :
    Calls Try.prog 31 #[.string a0] w fun e w' => ∃ v0_ : Value, e = .returned v0_ ∧ Kd.R k27 27 w' w.heap.size (fun _ => True) v0_ r ∧ Below w.heap.size w w' := by
  unfold stylusref01_Runs.f at h
  split at h
  · rename_i hc
    obtain rfl := Option.some.inj h
    exact refRuns_walk a0 hc w
  · cases h
end Go.Proofs.Ythcmfjpheanphaa.Pr
