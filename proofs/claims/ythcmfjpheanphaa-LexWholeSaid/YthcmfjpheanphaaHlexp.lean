/- The body of LexParted, walked by hand. -/
import Derived.Test.YthcmfjpheanphaaHlex
import Derived.Test.YthcmfjpheanphaaPureLexReads
import Derived.Test.YthcmfjpheanphaaPureParted
import Derived.Maps.AppendAt
namespace Go.Proofs.Ythcmfjpheanphaa.Pr
set_option linter.unusedVariables false
set_option linter.unusedSimpArgs false
open Go.RowKit Go.Shelf Go.Proofs.YthcmfjpheanphaaW.PrintWords Go.Proofs.YthcmfjpheanphaaW.PrintLast Go.Proofs.Ythcmfjpheanphaa.Pure
attribute [local go_sem] Oper.semAt_some

/-- where what is read stands -/
theorem nextP_f3 (t : ByteArray) (a : Int) : (nextP t a).l.f3 = a ∨ (nextP t a).l.f3 = 0 := by
  unfold nextP
  split
  · unfold openP
    split
    · exact .inr rfl
    · exact .inl rfl
  · split
    · exact .inl rfl
    · split
      · exact .inr rfl
      · exact .inl rfl
theorem allL_at (s : ByteArray) : ∀ (d k : Nat) (x : Nat × Spot), x ∈ allL s d k → x.1 < s.size ∧ (x.2.l.f3 = x.1 ∨ x.2.l.f3 = 0)
  | 0, k, x, h => by simp [allL] at h
  | d + 1, k, x, h => by
    simp only [allL] at h
    split at h
    · rename_i hk
      rcases List.mem_cons.1 h with rfl | h
      · exact ⟨hk, nextP_f3 _ _⟩
      · split at h
        · exact allL_at s d _ x h
        · simp at h
    · simp at h
theorem lexP_at (s : ByteArray) (x : S47) (h : x ∈ (lexP s).1) : 0 ≤ x.f3 ∧ x.f3 ≤ s.size := by
  unfold lexP at h
  split at h
  · simp at h
  · split at h
    · simp only [lexes, List.mem_map] at h
      obtain ⟨y, hy, rfl⟩ := h
      have := allL_at s _ _ y hy
      omega
    · simp at h
theorem lexP_pos (s : ByteArray) : 0 ≤ (lexP s).2.1 ∧ (lexP s).2.1 ≤ s.size := by
  unfold lexP
  split
  · exact ⟨Int.le_refl _, Int.natCast_nonneg _⟩
  · split
    · exact ⟨Int.le_refl _, Int.natCast_nonneg _⟩
    · simp only [lastAt]
      split
      · rename_i x hx
        have := allL_at s _ _ x (List.mem_of_getLast? hx)
        omega
      · omega
theorem lexP_some (s : ByteArray) (h : 0 < s.size) (he : (lexP s).2.2 = 0) : 0 < (lexP s).1.length := by
  unfold lexP at he ⊢
  split at he
  · simp at he
  · rename_i h2
    rw [if_neg h2]
    split at he
    · rename_i h3
      rw [if_pos h3]
      rw [lexes_length]
      obtain ⟨d, hd⟩ : ∃ d, s.size = d + 1 := ⟨s.size - 1, by omega⟩
      rw [hd]
      simp only [allL]
      rw [if_pos (by omega)]
      simp
    · rename_i h3
      exact absurd he h3
theorem flat47_unique : ∀ (xs : List S47) (inner : List Value), inner.length = xs.length * 4 →
    (∀ (j : Nat) (p : S47), xs[j]? = some p → (inner.drop (j * 4)).take 4 = [.int .i64 p.f0, .int .u8 p.f1, .string p.f2, .int .i64 p.f3]) → inner = flat47 xs
  | [], inner, hl, _ => by
    have : inner = [] := List.eq_nil_of_length_eq_zero (by simpa using hl)
    rw [this]; rfl
  | x :: xs, inner, hl, h => by
    have h0 := h 0 x rfl
    simp only [Nat.zero_mul, List.drop_zero] at h0
    have h1 := flat47_unique xs (inner.drop 4) (by rw [List.length_drop, hl, List.length_cons]; omega) (fun j p hp => by
      have := h (j + 1) p hp
      rw [List.drop_drop]
      rw [show (j + 1) * 4 = 4 + j * 4 by omega] at this
      exact this)
    rw [← List.take_append_drop 4 inner, h0, h1]
    rfl
/-- a row of lexes, as a row of cells -/
theorem R47_own {w : World} {b : Nat} {ok : Nat → Prop} {v : Value} {xs : List S47} (h : Kd.R k47 47 w b ok v xs) : w.ownsRow b 47 4 v xs.length (flat47 xs) := by
  obtain ⟨h0, inner, hown, hl, hM⟩ := h
  have : inner = flat47 xs := flat47_unique xs inner hl fun j p hp => k47_openM (hM j p hp)
  subst this
  exact hown

theorem own_some {w : World} {b n : Nat} {A : Option Addr} {k c : Nat} {xs : List Value} (h : w.ownsRow b 47 4 (.slice A k c) n xs) (hn : 0 < n) : ∃ g, A = some ⟨g, 0, none⟩ := by
  rcases h.2 with ⟨h1, h2⟩ | ⟨g, cap, cur, h1, _⟩
  · omega
  · cases h1
    exact ⟨g, rfl⟩
theorem own_empty (w : World) : (w.alloc (.cells #[] 47)).ownsRow w.heap.size 47 4 (.slice (some ⟨w.heap.size, 0, none⟩) 0 0) 0 [] :=
  ⟨rfl, .inr ⟨w.heap.size, 0, #[], rfl, Nat.le_refl _, heap_alloc_new w _, Nat.le_refl _, Nat.zero_le _, rfl, rfl⟩⟩
theorem flat47_next (l m : List S47) (N : Int) (k : Nat) (x : S47) (h : m[k]? = some x) :
    flat47 (l ++ shiftL N (m.take (k + 1))) = flat47 (l ++ shiftL N (m.take k)) ++ [.int .i64 x.f0, .int .u8 x.f1, .string x.f2, .int .i64 (x.f3 + N)] := by
  have : m.take (k + 1) = m.take k ++ [x] := by rw [List.take_add_one, h]; rfl
  rw [this]
  unfold shiftL
  rw [List.map_append, ← List.append_assoc]
  exact flat47_snoc _ _
theorem flat47_one (xs : List S47) : ∀ u ∈ flat47 xs, u.oneCell' = true := by
  intro u hu
  simp only [flat47, List.mem_flatMap] at hu
  obtain ⟨x, _, hx⟩ := hu
  simp only [List.mem_cons, List.not_mem_nil, or_false] at hx
  rcases hx with rfl | rfl | rfl | rfl <;> rfl

set_option pp.maxSteps 3000 in
set_option maxRecDepth 100000 in
set_option maxHeartbeats 4000000 in
theorem lexParted_short (a b : ByteArray) (ha : a.size ≤ 4000) (hb : b.size ≤ 4000) (w : World) :
    Calls Try.prog 8 #[.string a, .string b] w fun e w' => e = .returned (.bool true) ∧ Below w.heap.size w w' := by
  obtain ⟨i0, hi, hz0, hz1, hz2⟩ := info_parts info47h
  have haw := fun w => styluslaw03_awake.calls 20 true w awake03
  obtain ⟨l, at_, e, h1⟩ : ∃ l at_ e, lexP (a ++ ⟨#[125]⟩) = (l, at_, e) := ⟨_, _, _, rfl⟩
  obtain ⟨m, n, f, h2⟩ : ∃ l at_ e, lexP b = (l, at_, e) := ⟨_, _, _, rfl⟩
  obtain ⟨c, g, i, h3⟩ : ∃ l at_ e, lexP ((a ++ ⟨#[125]⟩) ++ b) = (l, at_, e) := ⟨_, _, _, rfl⟩
  have h4 := lexP_parted a b ha hb l m at_ n e f h1 h2
  rw [h3] at h4
  have k1 := fun w => lex_Of.calls (a ++ ⟨#[125]⟩) l at_ e w (congrArg some h1)
  have k2 := fun w => lex_Of.calls b m n f w (congrArg some h2)
  have k3 := fun w => lex_Of.calls ((a ++ ⟨#[125]⟩) ++ b) c g i w (congrArg some h3)
  have p1 : (a ++ (⟨#[125]⟩ : ByteArray)).size = a.size + 1 := by rw [ByteArray.size_append]; rfl
  have hcat1 := fun W => run_string_add_sum (P := Try.prog) (w := W) a ⟨#[125]⟩ (by show a.size + 1 ≤ _; omega)
  have hcat2 := fun W => run_string_add_sum (P := Try.prog) (w := W) (a ++ ⟨#[125]⟩) b (by rw [p1]; omega)
  have Hk1 := Lib.hid k1
  have Hk2 := Lib.hid k2
  have Hk3 := Lib.hid k3
  have H4 := Lib.hid h4
  have H123 := Lib.hid (And.intro h1 (And.intro h2 h3))
  have Haw := Lib.hid haw
  clear k1 k2 k3 h4 h1 h2 h3 p1 haw
  have g1 : (a.size : Int) ≤ 4000 := by omega
  have g2 : (b.size : Int) ≤ 4000 := by omega
  go_enter Try.func8, Try.ntmps8
  go_wp2_with fail
  refine (Hk1.out _).mono ?_
  rintro _ w1 ⟨v1, rfl, R1, B1⟩
  go_wp2_with fail
  refine (Hk2.out _).mono ?_
  rintro _ w2 ⟨v2, rfl, R2, B2⟩
  replace R1 := Kd.R_below R1 B2
  replace R2 := Kd.R_lower R2 B1.size
  replace B2 := B1.trans (B2.mono B1.size)
  clear B1
  go_wp2_with fail
  refine (Hk3.out _).mono ?_
  rintro _ w3 ⟨v3, rfl, R3, B3⟩
  replace R1 := Kd.R_below R1 B3
  replace R2 := Kd.R_below R2 B3
  replace R3 := Kd.R_lower R3 B2.size
  replace B3 := B2.trans (B3.mono B2.size)
  clear B2 Hk1 Hk2 Hk3 hcat1 hcat2
  obtain ⟨A1, c1, rfl⟩ := Kd.R_slice R1
  obtain ⟨A2, c2, rfl⟩ := Kd.R_slice R2
  obtain ⟨A3, c3, rfl⟩ := Kd.R_slice R3
  have HR1 := Lib.hid R1
  have HR2 := Lib.hid R2
  have HR3 := Lib.hid R3
  clear R1 R2 R3
  by_cases he : e = 0
  · by_cases hf : f = 0
    · subst he hf
      have h5 := H4.out
      rw [if_pos rfl, if_pos rfl] at h5
      simp only [Prod.mk.injEq] at h5
      obtain ⟨rfl, rfl, rfl⟩ := h5
      have O1 := R47_own HR1.out
      have hl0 : 0 < l.length := by
        have := lexP_some (a ++ ⟨#[125]⟩) (by rw [ByteArray.size_append]; show 0 < a.size + 1; omega)
        rw [H123.out.1] at this
        exact this rfl
      have hl1 : l.length ≤ 4001 := by
        have := lexP_length (a ++ ⟨#[125]⟩)
        rw [H123.out.1, ByteArray.size_append] at this
        have z : (⟨#[125]⟩ : ByteArray).size = 1 := rfl
        simp only at this
        omega
      obtain ⟨g, rfl⟩ := own_some O1 hl0
      have hm1 : m.length ≤ 4000 := by
        have := lexP_length b
        rw [H123.out.2.1] at this
        simp only at this
        omega
      have hma : ∀ x ∈ m, 0 ≤ x.f3 ∧ x.f3 ≤ 4000 := fun x hx => by
        have := lexP_at b x (by rw [H123.out.2.1]; exact hx)
        omega
      have HO1 := Lib.hid O1
      have HM := Lib.hid hma
      clear O1 hma H4 H123
      have hcl : (l ++ shiftL (↑a.size + 1) m).length = l.length + m.length := by simp [shiftL]
      have hl2 : (((l ++ shiftL (↑a.size + 1) m).length : Int) == 0) = false := beq_eq_false_iff_ne.2 (by omega)
      go_wp2_with (at_builtin; refine wpList_append_own _ rfl _ _ 41 rfl w3.heap.size 47 i0 (.agg #[(.int .i64 0), (.int .u8 0), (.string ⟨#[]⟩), (.int .i64 0)]) 4 40 Try.underlying41 hi hz0 hz1 hz2 rfl (by decide) _ 0 [] rfl (own_empty w3) ⟨g, 0, none⟩ l.length c1 (flat47 l) rfl (flat47_length l) ?c1 ?c2 ?c3 ?c4 ?c5 ?c6)
      case c1 => exact (HO1.out.alloc _).cells (g := g) rfl
      case c2 => exact flat47_one l
      case c3 => unfold maxLen; omega
      case c4 => omega
      case c5 => simp
      case c6 =>
        intro v4 w4 hown hgrow _
        have hB4 : Below w3.heap.size w3 w4 := ((Below.refl _ w3).alloc (Nat.le_refl _) _).grown hgrow (by simp) fun k hk => (by cases hk; exact Nat.le_refl _)
        have HO4 := Lib.hid hown
        clear hown hgrow
        go_wp2_with fail
        go_loopw [14, 15] (fun v q wr => ∃ k : Nat, k ≤ m.length ∧ q = .int .i64 k ∧ wr.ownsRow w3.heap.size 47 4 v (l.length + k) (flat47 (l ++ shiftL (↑a.size + 1) (m.take k))) ∧ Below w3.heap.size w3 wr) (fun _ q _ => m.length - (intOf q).toNat)
        case atStart => exact ⟨0, Nat.zero_le _, rfl, by simpa [shiftL] using HO4.out, hB4⟩
        case round =>
          obtain ⟨k, hk, rfl, hown, hB⟩ := hrel
          by_cases hlt : k < m.length
          · have hlt1 : (k : Int) < (m.length : Int) := by omega
            have R2 := Kd.R_below HR2.out hB
            obtain ⟨ad, e1, q0, q1, q2, q3⟩ := at_T47 (Kd.R_reads' R2).2.2 k (by omega) hlt1
            cases e1
            have hmk : m[k]? = some (rd_T47 m k) := by
              unfold rd_T47
              rw [Int.toNat_natCast, List.getD_eq_getElem?_getD, List.getElem?_eq_getElem hlt]
              rfl
            have hf3 := HM.out _ (List.mem_of_getElem? hmk)
            generalize rd_T47 m k = x at *
            obtain ⟨f0, f1, f2, f3⟩ := x
            simp only [Int.toNat_natCast] at q0 q1 q2 q3 hf3
            obtain ⟨hf31, hf32⟩ := hf3
            have Hmk := Lib.hid hmk
            have HO := Lib.hid hown
            clear R2 hmk hown
            go_wp2_with (at_builtin; refine wpList_append_own _ rfl _ _ 41 rfl w3.heap.size 47 i0 (.agg #[(.int .i64 0), (.int .u8 0), (.string ⟨#[]⟩), (.int .i64 0)]) 4 40 Try.underlying41 hi hz0 hz1 hz2 rfl (by decide) _ _ _ rfl ((HO.out.alloc _).alloc _) _ 1 1 [.int .i64 f0, .int .u8 f1, .string f2, .int .i64 (f3 + ((a.size : Int) + 1))] rfl rfl ?d1 ?d2 ?d3 ?d4 ?d5 ?d6)
            case d1 =>
              have := cells_new (wr.alloc (.cells #[.int .i64 f0, .int .u8 f1, .string f2, .int .i64 (f3 + ((a.size : Int) + 1))] 47)) [.int .i64 f0, .int .u8 f1, .string f2, .int .i64 (f3 + ((a.size : Int) + 1))] 47
              rw [World.size_alloc] at this
              exact this
            case d2 => simp [Value.oneCell']
            case d3 => unfold maxLen; omega
            case d4 => omega
            case d5 => have := hB.size; simp; omega
            case d6 =>
              intro v5 w5 hown' hgrow' _
              have hB5 : Below w3.heap.size w3 w5 := ((hB.alloc hB.size _).alloc (by have := hB.size; simp; omega) _).grown hgrow' (by have := hB.size; simp; omega) fun j hj => (HO.out.lt j hj).1
              rw [← flat47_next l m _ k _ Hmk.out] at hown'
              have HO5 := Lib.hid hown'
              clear hown' hgrow' q0 q1 q2 q3
              go_wp2
              go_roundw
              case rel => exact ⟨k + 1, by omega, by go_num, HO5.out, hB5⟩
              case measure => simp [intOf]; omega
          · obtain rfl : k = m.length := by omega
            rw [List.take_length, ← hcl] at hown
            have R4 := own_R47 hown _ (Nat.le_refl _)
            have R3 := Kd.R_below HR3.out hB
            obtain ⟨A4, c4, rfl⟩ := Kd.R_slice R4
            have hsame := same47_f (l ++ shiftL (↑a.size + 1) m) (by omega) 10000 (by omega)
            have hS := stylusref03_Same.calls 10000 A3 c3 _ A4 c4 _ true wr (Kd.R_reads' R3).2.2 (Kd.R_reads' R3).2.1 (Kd.R_reads' R4).2.2 (Kd.R_reads' R4).2.1 hsame
            rw [hcl] at hS
            have HS := Lib.hid hS
            have B4 := B3.trans (hB.mono B3.size)
            clear hS hsame R4 R3 hown
            simp only [hcl]
            go_wp2_with fail
            refine HS.out.mono ?_
            rintro _ w5 ⟨rfl, ⟨nd, rfl⟩⟩
            go_wp2_with (go_at_call 44; refine (Haw.out _).mono ?_; rintro _ w6 ⟨rfl, hb6⟩)
            go_ret
            exact ⟨rfl, below_step (by apply pw_below_drewN; exact B4) hb6⟩
    · subst he
      have h5 := H4.out
      rw [if_pos rfl, if_neg hf] at h5
      simp only [Prod.mk.injEq] at h5
      obtain ⟨rfl, rfl, rfl⟩ := h5
      have f1 : (i == 0) = false := beq_eq_false_iff_ne.2 hf
      have f2 : (i != 0) = true := bne_iff_ne.2 hf
      have hn0 := lexP_pos b
      rw [H123.out.2.1] at hn0
      replace hn0 : 0 ≤ n ∧ n ≤ 4000 := ⟨hn0.1, by have := hn0.2; simp only at this; omega⟩
      obtain ⟨hn1, hn2⟩ := hn0
      clear H4 H123 hf
      go_wp2_with (go_at_call 44; refine (Haw.out _).mono ?_; rintro _ w4 ⟨rfl, hb4⟩; replace B3 := B3.trans (hb4.mono B3.size))
      go_ret
      exact ⟨rfl, B3⟩
  · have h5 := H4.out
    rw [if_neg he] at h5
    simp only [Prod.mk.injEq] at h5
    obtain ⟨rfl, rfl, rfl⟩ := h5
    have f1 : (i == 0) = false := beq_eq_false_iff_ne.2 he
    have f2 : (i != 0) = true := bne_iff_ne.2 he
    clear H4
    go_wp2_with (go_at_call 44; refine (Haw.out _).mono ?_; rintro _ w4 ⟨rfl, hb4⟩; replace B3 := B3.trans (hb4.mono B3.size))
    go_ret
    exact ⟨rfl, B3⟩
set_option pp.maxSteps 3000 in
set_option maxRecDepth 100000 in
set_option maxHeartbeats 1000000 in
theorem lexParted_walk (a b : ByteArray) (w : World) (w0 : a.size ≤ 140737488351232) (w1 : b.size ≤ 140737488351232) :
    Calls Try.prog 8 #[.string a, .string b] w fun e w' => e = .returned (.bool true) ∧ Below w.heap.size w w' := by
  have haw := fun w => styluslaw03_awake.calls 20 true w awake03
  have Haw := Lib.hid haw
  clear haw
  by_cases ha : a.size ≤ 4000
  · by_cases hb : b.size ≤ 4000
    · exact lexParted_short a b ha hb w
    · have g1 : (a.size : Int) ≤ 4000 := by omega
      have g2 : (4000 : Int) < (b.size : Int) := by omega
      clear ha hb
      go_enter Try.func8, Try.ntmps8
      go_wp2_with (go_at_call 44; refine (Haw.out _).mono ?_; rintro _ w6 ⟨rfl, hb6⟩)
      go_ret
      exact ⟨rfl, hb6⟩
  · have g1 : (4000 : Int) < (a.size : Int) := by omega
    clear ha
    go_enter Try.func8, Try.ntmps8
    go_wp2_with (go_at_call 44; refine (Haw.out _).mono ?_; rintro _ w6 ⟨rfl, hb6⟩)
    go_ret
    exact ⟨rfl, hb6⟩
end Go.Proofs.Ythcmfjpheanphaa.Pr
