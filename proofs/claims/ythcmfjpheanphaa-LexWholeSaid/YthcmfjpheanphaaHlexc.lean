/- lex.next, walked by hand. -/
import Derived.Test.YthcmfjpheanphaaHlexb
namespace Go.Proofs.Ythcmfjpheanphaa.Pr
set_option linter.unusedVariables false
set_option linter.unusedSimpArgs false
open Go.RowKit Go.Proofs.YthcmfjpheanphaaW.PrintWords

/-- where a text ends -/
def plainTo (t : ByteArray) : Nat → Nat → Nat
  | 0, q => q
  | d + 1, q => if q < t.size ∧ plainP (bt t (q : Int)) = true then plainTo t d (q + 1) else q
theorem plainTo_stop (t : ByteArray) : ∀ d q, ¬ (q < t.size ∧ plainP (bt t (q : Int)) = true) → plainTo t d q = q
  | 0, _, _ => rfl
  | d + 1, q, h => by simp only [plainTo]; rw [if_neg h]
theorem plainTo_size (t : ByteArray) : ∀ d q, q ≤ t.size → plainTo t d q ≤ t.size
  | 0, q, h => h
  | d + 1, q, h => by
    simp only [plainTo]
    split
    · rename_i hc; exact plainTo_size t d (q + 1) (by omega)
    · exact h
/-- what is read at the beginning of a text -/
def nextP (t : ByteArray) (at_ : Int) : Spot :=
  if bt t 0 = 123 then openP t at_
  else if bt t 0 = 125 then ⟨⟨3, 0, ⟨#[]⟩, at_⟩, 1, 0⟩
  else if plainTo t t.size 0 = 0 then ⟨⟨0, 0, ⟨#[]⟩, 0⟩, 0, 3⟩
  else ⟨⟨1, 0, t.extract 0 (plainTo t t.size 0), at_⟩, ((plainTo t t.size 0 : Nat) : Int), 0⟩
theorem results_spot (w : World) (x : Spot) : (encSpot x) = .agg #[.int .i64 x.l.f0, .int .u8 x.l.f1, .string x.l.f2, .int .i64 x.l.f3, .int .i64 x.size, .int .i64 x.e] := rfl

set_option pp.maxSteps 3000 in
set_option maxRecDepth 100000 in
set_option maxHeartbeats 4000000 in
theorem next_calls (t : ByteArray) (at_ : Int) (h1 : 1 ≤ t.size) (ht : t.size ≤ 1000000) (w : World) :
    Calls Try.prog 130 #[.string t, .int .i64 at_] w fun e w' => e = .returned (encSpot (nextP t at_)) ∧ Below w.heap.size w w' := by
  have hblk : ∀ W, Below (w.alloc (.cells #[.int .i64 0, .int .u8 0, .string ⟨#[]⟩, .int .i64 0, .int .i64 0, .int .i64 0] 87)).heap.size (w.alloc (.cells #[.int .i64 0, .int .u8 0, .string ⟨#[]⟩, .int .i64 0, .int .i64 0, .int .i64 0] 87)) W → W.heap[w.heap.size]? = some (.cells #[.int .i64 0, .int .u8 0, .string ⟨#[]⟩, .int .i64 0, .int .i64 0, .int .i64 0] 87 (0, 0)) := fun W hW =>
    (hW.block w.heap.size (by simp)).trans (blk_new w (.cells #[.int .i64 0, .int .u8 0, .string ⟨#[]⟩, .int .i64 0, .int .i64 0, .int .i64 0] 87))
  have hB0 : Below w.heap.size w (w.alloc (.cells #[.int .i64 0, .int .u8 0, .string ⟨#[]⟩, .int .i64 0, .int .i64 0, .int .i64 0] 87)) := (Below.refl _ w).alloc (Nat.le_refl _) _
  have HK := Lib.hid hblk
  clear hblk
  have hg0 : ((t[0].toNat : Nat) : Int) = bt t 0 := bt_at t 0 (by simp; omega)
  have hop := fun w => opening_calls t at_ h1 ht w
  obtain ⟨r, hr0⟩ : ∃ r, nextP t at_ = r := ⟨_, rfl⟩
  rw [hr0]
  unfold nextP at hr0
  by_cases h123 : bt t 0 = 123
  · rw [if_pos h123] at hr0
    have hg1 : ((t[0].toNat : Nat) : Int) = 123 := hg0.trans h123
    have HO := Lib.hid hop
    clear hg0 h123 hop
    rw [hr0] at HO
    clear hr0
    go_enter Try.func130, Try.ntmps130
    go_wp2_with (first | (go_at_call 160; refine (HO.out _).mono ?_; rintro e w' ⟨rfl, hb⟩; unfold encSpot) | (refine wpList_store_row rfl 87 (.tmp 4) (.tmp 12) rfl w.heap.size _ rfl rfl 87 _ (HK.out _ hb) ?h1 ?h2 ?h3 ?h4))
    case h1 => kernel_rfl
    case h2 => rfl
    case h3 => simp [Value.oneCell']
    case h4 =>
      go_wp2
      refine bodyPost_ret (results_cell_row rfl _ _ w.heap.size 87 _ (0, 0) _ rfl (setRow_heap _ _ _ _ _ _ (HK.out _ hb)) Try.underlying87 rfl (by kernel_rfl)) rfl ⟨rfl, ?_⟩
      exact Go.Det.below_setRow (hB0.trans (hb.mono hB0.size)) (by omega) _
  · rw [if_neg h123] at hr0
    clear hop
    by_cases h125 : bt t 0 = 125
    · rw [if_pos h125] at hr0
      subst hr0
      have hg1 : ((t[0].toNat : Nat) : Int) = 125 := hg0.trans h125
      clear hg0 h123 h125
      go_enter Try.func130, Try.ntmps130
      go_wp2_with (refine wpList_store_row rfl 87 (.tmp 4) (.tmp 19) rfl w.heap.size _ rfl rfl 87 _ (HK.out _ (Below.refl _ _)) ?h1 ?h2 ?h3 ?h4)
      case h1 => kernel_rfl
      case h2 => rfl
      case h3 => simp [Value.oneCell']
      case h4 =>
        go_wp2
        refine bodyPost_ret (results_cell_row rfl _ _ w.heap.size 87 _ (0, 0) _ rfl (setRow_heap _ _ _ _ _ _ (HK.out _ (Below.refl _ _))) Try.underlying87 rfl (by kernel_rfl)) rfl ⟨rfl, ?_⟩
        exact Go.Det.below_setRow hB0 (by omega) _
    · rw [if_neg h125] at hr0
      have HRs := Lib.hid hr0
      clear hr0
      have hb1 : (bt t 0 == 123) = false := beq_eq_false_iff_ne.2 h123
      have hb2 : (bt t 0 == 125) = false := beq_eq_false_iff_ne.2 h125
      generalize bt t 0 = y0 at *
      clear h123 h125
      go_enter Try.func130, Try.ntmps130
      go_wp2
      go_loopw [5] (fun v wr => ∃ (k d : Nat), k ≤ t.size ∧ v = .int .i64 k ∧ Hid (t.size ≤ d + k ∧ plainTo t t.size 0 = plainTo t d k) ∧ Below (w.alloc (.cells #[.int .i64 0, .int .u8 0, .string ⟨#[]⟩, .int .i64 0, .int .i64 0, .int .i64 0] 87)).heap.size (w.alloc (.cells #[.int .i64 0, .int .u8 0, .string ⟨#[]⟩, .int .i64 0, .int .i64 0, .int .i64 0] 87)) wr) (fun v _ => t.size - (intOf v).toNat)
      case atStart => exact ⟨0, t.size, by omega, rfl, Lib.hid ⟨by omega, rfl⟩, Below.refl _ _⟩
      case round =>
        obtain ⟨k, d, hk, rfl, H, hB⟩ := hrel
        have Hstop := Lib.hid (plainTo_stop t d k)
        by_cases hlt : k < t.size
        · have hl2 : (k : Int) < (t.size : Int) := by omega
          obtain ⟨d, rfl⟩ : ∃ m, d = m + 1 := ⟨d - 1, by have := H.out.1; omega⟩
          have hr := bt_range t k
          have hgk : ((t[k].toNat : Nat) : Int) = bt t k := bt_at t k (by simpa using hlt)
          have hp := fun W => plain_calls (bt t k) hr.1 hr.2 W
          have Hstep : Hid (plainP (bt t (k : Int)) = true → plainTo t (d + 1) k = plainTo t d (k + 1)) := Lib.hid (fun h => by simp only [plainTo]; rw [if_pos ⟨hlt, h⟩])
          generalize bt t (k : Int) = y at *
          cases hpy : plainP y with
          | true =>
            rw [hpy] at hp
            have HP := Lib.hid hp
            have HN : Hid (t.size ≤ d + (k + 1) ∧ plainTo t t.size 0 = plainTo t d (k + 1)) := Lib.hid ⟨by have := H.out.1; omega, H.out.2.trans (Hstep.out hpy)⟩
            clear hp hpy Hstep Hstop H
            go_wp2_with (go_at_call 161; refine (HP.out _).mono ?_; rintro e w' ⟨rfl, hb⟩)
            go_roundw
            case rel => exact ⟨k + 1, d, by omega, by go_num, HN, hB.trans (hb.mono hB.size)⟩
            case measure => simp [intOf]; omega
          | false =>
            rw [hpy] at hp
            have HP := Lib.hid hp
            have HT : Hid (plainTo t t.size 0 = k) := Lib.hid (H.out.2.trans (Hstop.out (fun h => by rw [hpy] at h; exact absurd h.2 (by simp))))
            clear hp hpy Hstep Hstop H
            by_cases hk0 : k = 0
            · subst hk0
              obtain rfl : y = y0 := hgk.symm.trans hg0
              simp only [Int.natCast_zero] at *
              go_wp2_with (first | (go_at_call 161; refine (HP.out _).mono ?_; rintro e w' ⟨rfl, hb⟩; have hb2 := hB.trans (hb.mono hB.size)) | (refine wpList_store_row rfl 87 (.tmp 4) (.tmp 34) rfl w.heap.size _ rfl rfl 87 _ (HK.out _ hb2) ?h1 ?h2 ?h3 ?h4))
              case h1 => kernel_rfl
              case h2 => rfl
              case h3 => simp [Value.oneCell']
              case h4 =>
                go_wp2
                refine bodyPost_ret (results_cell_row rfl _ _ w.heap.size 87 _ (0, 0) _ rfl (setRow_heap _ _ _ _ _ _ (HK.out _ hb2)) Try.underlying87 rfl (by kernel_rfl)) rfl ⟨?_, ?_⟩
                · rw [← HRs.out, if_pos HT.out]; rfl
                · exact Go.Det.below_setRow (hB0.trans (hb2.mono hB0.size)) (by omega) _
            · have hk1 : ¬ (k : Int) = 0 := by omega
              have hk2 : ((k : Int) == 0) = false := beq_eq_false_iff_ne.2 hk1
              have hsl := fun W => Go.Det.sl_strh (P := Try.prog) Try.underlying9 t k (by omega) W
              clear hk1
              go_wp2_with (first | (go_at_call 161; refine (HP.out _).mono ?_; rintro e w' ⟨rfl, hb⟩; have hb2 := hB.trans (hb.mono hB.size)) | (refine wpList_store_row rfl 87 (.tmp 4) (.tmp 41) rfl w.heap.size _ rfl rfl 87 _ (HK.out _ hb2) ?h1 ?h2 ?h3 ?h4))
              case h1 => kernel_rfl
              case h2 => rfl
              case h3 => simp [Value.oneCell']
              case h4 =>
                go_wp2
                refine bodyPost_ret (results_cell_row rfl _ _ w.heap.size 87 _ (0, 0) _ rfl (setRow_heap _ _ _ _ _ _ (HK.out _ hb2)) Try.underlying87 rfl (by kernel_rfl)) rfl ⟨?_, ?_⟩
                · rw [← HRs.out, if_neg (by rw [HT.out]; exact hk0), HT.out]; rfl
                · exact Go.Det.below_setRow (hB0.trans (hb2.mono hB0.size)) (by omega) _
        · have hl2 : ¬ (k : Int) < (t.size : Int) := by omega
          have HT : Hid (plainTo t t.size 0 = k) := Lib.hid (H.out.2.trans (Hstop.out (fun h => hlt h.1)))
          have hk0 : ¬ k = 0 := by omega
          have hk1 : ¬ (k : Int) = 0 := by omega
          have hk2 : ((k : Int) == 0) = false := beq_eq_false_iff_ne.2 hk1
          have hsl := fun W => Go.Det.sl_strh (P := Try.prog) Try.underlying9 t k (by omega) W
          clear hk1 Hstop H
          go_wp2_with (first | (refine wpList_store_row rfl 87 (.tmp 4) (.tmp 41) rfl w.heap.size _ rfl rfl 87 _ (HK.out _ hB) (by kernel_rfl) rfl (by simp [Value.oneCell']) ?h4))
          case h4 =>
            go_wp2
            refine bodyPost_ret (results_cell_row rfl _ _ w.heap.size 87 _ (0, 0) _ rfl (setRow_heap _ _ _ _ _ _ (HK.out _ hB)) Try.underlying87 rfl (by kernel_rfl)) rfl ⟨?_, ?_⟩
            · rw [← HRs.out, if_neg (by rw [HT.out]; exact hk0), HT.out]; rfl
            · exact Go.Det.below_setRow (hB0.trans (hB.mono hB0.size)) (by omega) _
end Go.Proofs.Ythcmfjpheanphaa.Pr
