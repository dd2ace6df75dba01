/- The law CharsParted, walked by hand. -/
import Derived.Test.YthcmfjpheanphaaPureB
import Derived.Test.YthcmfjpheanphaaHcased
import Derived.Test.YthcmfjpheanphaaHbase
namespace Go.Proofs.Ythcmfjpheanphaa.Pr
set_option linter.unusedVariables false
set_option linter.unusedSimpArgs false
open Go.RowKit Go.Shelf Go.Proofs.YthcmfjpheanphaaW.PrintWords
attribute [local go_sem] Oper.semAt_some

theorem runs_cells {w1 : World} {base : Nat} {ok : Nat → Prop} {v : Value} {L : List S27} (h : Kd.R k27 27 w1 base ok v L) :
    ∃ A c, v = .slice A L.length c ∧ ∀ m p, L[m]? = some p → ∃ g, A = some ⟨g, 0, none⟩ ∧ ∀ W, Below w1.heap.size w1 W → W.cell? ⟨g, m * 2, none⟩ = some (.int .i64 p.f0) ∧ W.cell? ⟨g, m * 2 + 1, none⟩ = some (.string p.f1) := by
  obtain ⟨A, c, rfl, hc⟩ : ∃ A c, v = .slice A L.length c ∧ k27.C w1 A L.length L := by
    obtain ⟨A, c, h1, _, h3⟩ := Kd.R_reads h
    exact ⟨A, c, h1, h3⟩
  refine ⟨A, c, rfl, fun m p hp => ?_⟩
  have hm : m < L.length := (List.getElem?_eq_some_iff.1 hp).1
  obtain ⟨g, cap, e1, _⟩ := Kd.R_form h (by omega)
  obtain ⟨rfl, _⟩ : A = some ⟨g, 0, none⟩ ∧ c = cap := by simpa using e1
  obtain ⟨ad, e2, h1, h2⟩ := at_T27 hc (m : Int) (by omega) (by omega)
  obtain rfl := Option.some.inj e2
  rw [add_plain] at h1 h2
  have hrd : rd_T27 L (m : Int) = p := by simp [rd_T27, hp]
  rw [hrd] at h1 h2
  simp only [Int.toNat_natCast] at h1 h2
  exact ⟨g, rfl, fun W hW => ⟨(hW.cell (World.block_lt_of_cell? w1 _ h1)).trans h1, (hW.cell (World.block_lt_of_cell? w1 _ h2)).trans h2⟩⟩
/-- where the loop over the runs stands -/
def PartInv (s : ByteArray) (pre : List S27) (i d : Nat) : Prop :=
  runsL s s.size 0 = pre ++ runsL s d i ∧ s.size ≤ d + i ∧ i ≤ s.size ∧ ((pre = [] ∧ i = 0) ∨ ∃ pre' i', pre = pre' ++ [⟨i', s.extract i' i⟩] ∧ i' < i ∧ (i < s.size → clsAt s i ≠ clsAt s i'))
theorem partInv_start (s : ByteArray) : PartInv s [] 0 s.size := ⟨rfl, by omega, by omega, .inl ⟨rfl, rfl⟩⟩
theorem partInv_next {s : ByteArray} {pre : List S27} {i d : Nat} (h : PartInv s pre i d) (hi : i < s.size) :
    ∃ q d', i < q ∧ q ≤ s.size ∧ (∀ j, i ≤ j → j < q → clsAt s j = clsAt s i) ∧ runsL s s.size 0 = pre ++ ⟨i, s.extract i q⟩ :: runsL s d' q ∧ PartInv s (pre ++ [⟨i, s.extract i q⟩]) q d' := by
  obtain ⟨h1, h2, h3, _⟩ := h
  obtain ⟨d, rfl⟩ : ∃ m, d = m + 1 := ⟨d - 1, by omega⟩
  have e : runsL s (d + 1) i = ⟨i, s.extract i (runTo s (clsAt s i) s.size (i + 1))⟩ :: runsL s d (runTo s (clsAt s i) s.size (i + 1)) := by
    simp only [runsL]; rw [if_pos hi]
  have hle := runTo_le s (clsAt s i) s.size (i + 1)
  have hsz := runTo_size s (clsAt s i) s.size (i + 1) hi
  have hin := Pure.runTo_in s (clsAt s i) s.size (i + 1)
  have hout := Pure.runTo_out s (clsAt s i) s.size (i + 1) (by omega)
  rw [e] at h1
  generalize runTo s (clsAt s i) s.size (i + 1) = q at *
  refine ⟨q, d, by omega, hsz, fun j a b => ?_, h1, by rw [h1]; simp, by omega, hsz, .inr ⟨pre, i, rfl, by omega, hout⟩⟩
  by_cases hj : j = i
  · rw [hj]
  · exact hin j (by omega) b
theorem partInv_end {s : ByteArray} {pre : List S27} {i d : Nat} (h : PartInv s pre i d) (hi : i = s.size) : runsL s s.size 0 = pre := by
  rw [h.1]
  cases d with
  | zero => simp [runsL]
  | succ d => simp [runsL, hi]
theorem partInv_at {s : ByteArray} {pre : List S27} {i d : Nat} (h : PartInv s pre i d) : i < s.size ↔ pre.length < (runsL s s.size 0).length := by
  constructor
  · intro hi
    obtain ⟨q, d', _, _, _, e, _⟩ := partInv_next h hi
    rw [e]; simp
  · intro hl
    rcases Nat.lt_or_ge i s.size with h1 | h1
    · exact h1
    · rw [partInv_end h (by have := h.2.2.1; omega)] at hl
      omega
/-- bytes of a piece -/
theorem ext_cls (s : ByteArray) (i q j : Nat) (h : i + j < q) (hq : q ≤ s.size) : classP (bt (s.extract i q) (j : Int)) = clsAt s (i + j) := by
  rw [Pure.bt_extract s i q hq j h]; rfl

set_option pp.maxSteps 3000 in
set_option maxRecDepth 100000 in
set_option maxHeartbeats 8000000 in
theorem parted_walk (s : ByteArray) (leave : Int) (w : World) (hs : s.size ≤ 140737488351232) :
    Calls Try.prog 3 #[.string s, .int .i64 leave] w fun e w' => e = .returned (.bool true) ∧ Below w.heap.size w w' := by
  by_cases h2 : s.size ≤ 2000
  case neg =>
    go_enter Try.func3, Try.ntmps3
    go_wp2_with (go_at_call 22; refine (styluslaw01_awake.calls 20 true _ awake1).mono ?_; rintro e w1 ⟨rfl, hb⟩)
    go_ret
    exact ⟨rfl, ((Below.refl _ w).alloc (Nat.le_refl _) _).trans (hb.mono (by simp))⟩
  have hruns : styluslaw01_runs.f s = some (runsL s s.size 0, true) := if_pos (by omega)
  have HR := Lib.hid hruns
  clear hruns
  refine (callsIn_wide (n := 3)).1 (callsIn_of_wp_marks Try.func3 rfl trivial ?_ rfl)
  simp only [Try.ntmps3, List.size_toArray, List.length_cons, List.length_nil, Nat.reduceAdd, Nat.reduceSub, Array.replicate_succ, Array.replicate_zero, List.push_toArray, List.append_toArray, List.nil_append, List.cons_append]
  refine wpIn_wide.2 ?_
  have hlen := Pure.runsL_length s s.size 0
  go_wp2_with (go_at_call 23; refine (styluslaw01_runs.calls s _ _ _ HR.out).mono ?_; rintro e w1 ⟨v, rfl, hR, hb1⟩)
  have hB1 : Below w.heap.size w w1 := ((Below.refl _ w).alloc (Nat.le_refl _) _).trans (hb1.mono (by simp))
  have b0 : Boxed w1 w.heap.size 3 (.int .i64 leave) := boxed_below (Boxed.new w 3 (.int .i64 leave)) hb1
  obtain ⟨A, c, rfl, hcells⟩ := runs_cells hR
  have HC := Lib.hid hcells
  have B0 := Lib.hid b0
  clear hcells hR hb1 b0
  obtain ⟨nL, hnL⟩ : ∃ n, (runsL s s.size 0).length = n := ⟨_, rfl⟩
  rw [hnL] at hlen ⊢
  have HN := Lib.hid hnL
  clear hnL
  go_loopw [7, 8] (fun v7 v8 wr => ∃ (pre : List S27) (i d : Nat), PartInv s pre i d ∧ v7 = .string (s.extract 0 i) ∧ v8 = .int .i64 pre.length ∧ Below w1.heap.size w1 wr) (fun _ v8 _ => nL - (intOf v8).toNat)
  case atStart => exact ⟨[], 0, s.size, partInv_start s, by simp; rfl, rfl, Below.refl _ _⟩
  case round =>
    obtain ⟨pre, i, d, hinv, rfl, rfl, hB⟩ := hrel
    have hat := partInv_at hinv
    rw [HN.out] at hat
    by_cases hlt : i < s.size
    · have hpl := hat.1 hlt
      clear hat
      obtain ⟨q, d', hiq, hqs, hcl, hLe, hnext⟩ := partInv_next hinv hlt
      obtain ⟨g, rfl, hcw⟩ := HC.out pre.length ⟨i, s.extract i q⟩ (by rw [hLe]; simp)
      dsimp only at hcw
      have hpl2 : (pre.length : Int) < (nL : Int) := by omega
      have hasz : (s.extract 0 i).size = i := by rw [ByteArray.size_extract]; omega
      have hcat : s.extract 0 i ++ s.extract i q = s.extract 0 q := by
        rw [ByteArray.extract_append_extract]; congr 1 <;> omega
      have hpsz : (s.extract i q).size = q - i := by rw [ByteArray.size_extract]; omega
      have hpc : ∀ j, j < q - i → classP (bt (s.extract i q) (j : Int)) = clsAt s i := fun j hj => by
        rw [ext_cls s i q j (by omega) hqs]; exact hcl _ (by omega) (by omega)
      have hpe : (s.extract i q).toList.isEmpty = false := Go.Det.ne_str (by omega)
      have HCW := Lib.hid hcw
      obtain ⟨e1, e2⟩ := hcw wr hB
      generalize s.extract 0 i = al at *
      generalize s.extract i q = p at *
      have HX := Lib.hid hnext
      have HLe := Lib.hid hLe
      have HCat := Lib.hid hcat
      have HPC := Lib.hid hpc
      have HI := Lib.hid hinv
      clear hnext hLe hcat hpc hinv hcl hcw
      go_wp2_with fail
      clear e1 e2
      go_loopw [9] (fun v9 wq => ∃ j : Nat, j ≤ q - i ∧ v9 = .int .i64 j ∧ Below w1.heap.size w1 wq) (fun v9 _ => (q - i) - (intOf v9).toNat)
      case atStart => exact ⟨0, by omega, rfl, hB⟩
      case round =>
        clear hB
        obtain ⟨j, hj, rfl, hB⟩ := hrel
        obtain ⟨e1, e2⟩ := HCW.out wr hB
        by_cases hjq : j < q - i
        · have hjp : (j : Int) < (p.size : Int) := by omega
          have hjp' : j < p.size := by omega
          have h0p : 0 < p.size := by omega
          have r1 := bt_range p j
          have r0 := bt_range p 0
          have g1 : ((p[j].toNat : Nat) : Int) = bt p j := bt_at p j (by simpa using hjp')
          have g0 : ((p[0].toNat : Nat) : Int) = bt p 0 := bt_at p 0 (by simpa using h0p)
          have f1 := chars_Class.some_ (bt p j) r1.1 (by omega)
          have f0 := chars_Class.some_ (bt p 0) r0.1 (by omega)
          rw [HPC.out j hjq] at f1
          rw [show bt p 0 = bt p ((0 : Nat) : Int) from rfl, HPC.out 0 (by omega), show bt p ((0 : Nat) : Int) = bt p 0 from rfl] at f0
          have F1 := Lib.hid f1
          have F0 := Lib.hid f0
          clear f1 f0 r1 r0
          generalize bt p (j : Int) = y1 at *
          generalize bt p 0 = y0 at *
          generalize clsAt s i = cc at *
          go_wp2_with fail
          refine Go.Det.region_all (fun W => Below w1.heap.size w1 W) (by kernel_rfl) (by kernel_rfl) (below_drew hB) ?_
          clear e1 e2
          repeat (apply Go.Det.seqW_cons; focus (intro W hS; replace hS : Below w1.heap.size w1 W := hS; obtain ⟨e1, e2⟩ := HCW.out W hS; go_wp2_with (go_at_call 24; (first | (with_reducible refine (chars_Class.calls y1 _ _ F1.out).mono ?_) | (with_reducible refine (chars_Class.calls y0 _ _ F0.out).mono ?_)); rintro e w2 ⟨rfl, hb⟩; replace hS := hS.trans (hb.mono hS.size); clear hb); exact Go.Det.AtEnd.mk hS))
          refine Go.Det.seqW_nil ?_
          intro W hS
          replace hS : Below w1.heap.size w1 W := hS
          simp only [Exit.then]
          go_wp2
          go_roundw
          case rel => exact ⟨j + 1, by omega, by go_num, hS⟩
          case measure => simp [intOf]; omega
        · have hjp : ¬ (j : Int) < (p.size : Int) := by omega
          go_wp2_with fail
          have hcat := fun W => run_string_add_sum (P := Try.prog) (w := W) al p (by omega)
          rcases HI.out.2.2.2 with ⟨rfl, rfl⟩ | ⟨pre', i', rfl, hi', hne⟩
          · refine Go.Det.region_all (fun W => Below w1.heap.size w1 W) (by kernel_rfl) (by kernel_rfl) (below_drew hB) ?_
            clear e1 e2
            simp only [List.length_nil] at *
            repeat (apply Go.Det.seqW_cons; focus (intro W hS; replace hS : Below w1.heap.size w1 W := hS; obtain ⟨e1, e2⟩ := HCW.out W hS; go_wp2; exact Go.Det.AtEnd.mk hS))
            refine Go.Det.seqW_nil ?_
            intro W hS
            replace hS : Below w1.heap.size w1 W := hS
            obtain ⟨e1, e2⟩ := HCW.out W hS
            simp only [Exit.then]
            go_wp2
            refine ⟨⟨[⟨0, p⟩], q, d', HX.out, by rw [HCat.out], by go_num, hS⟩, by simp [intOf]; omega⟩
          · obtain ⟨g', eg, hcw'⟩ := HC.out pre'.length ⟨i', s.extract i' i⟩ (by rw [HLe.out]; simp)
            obtain rfl : g' = g := by simpa using eg.symm
            dsimp only at hcw'
            have hpsz' : (s.extract i' i).size = i - i' := by rw [ByteArray.size_extract]; omega
            have f1 := ext_cls s i' i 0 (by omega) (by omega)
            have f0 := HPC.out 0 (by omega)
            generalize s.extract i' i = p' at *
            have HCV := Lib.hid hcw'
            have h0p : 0 < p.size := by omega
            have h0p' : 0 < p'.size := by omega
            have r1 := bt_range p' 0
            have r0 := bt_range p 0
            have g1 : ((p'[0].toNat : Nat) : Int) = bt p' 0 := bt_at p' 0 (by simpa using h0p')
            have g0 : ((p[0].toNat : Nat) : Int) = bt p 0 := bt_at p 0 (by simpa using h0p)
            have f1' := chars_Class.some_ (bt p' 0) r1.1 (by omega)
            have f0' := chars_Class.some_ (bt p 0) r0.1 (by omega)
            rw [show bt p' 0 = bt p' ((0 : Nat) : Int) from rfl, f1, show bt p' ((0 : Nat) : Int) = bt p' 0 from rfl] at f1'
            rw [show bt p 0 = bt p ((0 : Nat) : Int) from rfl, f0, show bt p ((0 : Nat) : Int) = bt p 0 from rfl] at f0'
            have hd : (clsAt s (i' + 0) == clsAt s i) = false := beq_eq_false_iff_ne.2 (Ne.symm (hne hlt))
            have F1 := Lib.hid f1'
            have F0 := Lib.hid f0'
            clear f1 f0 f1' f0' r1 r0 hne hcw' eg
            generalize bt p' 0 = y1 at *
            generalize bt p 0 = y0 at *
            generalize clsAt s (i' + 0) = c1 at *
            generalize clsAt s i = c0 at *
            simp only [List.length_append, List.length_singleton] at *
            refine Go.Det.region_all (fun W => Below w1.heap.size w1 W) (by kernel_rfl) (by kernel_rfl) (below_drew hB) ?_
            clear e1 e2
            repeat (apply Go.Det.seqW_cons; focus (intro W hS; replace hS : Below w1.heap.size w1 W := hS; obtain ⟨e1, e2⟩ := HCW.out W hS; obtain ⟨e3, e4⟩ := HCV.out W hS; go_wp2_with (go_at_call 24; (first | (with_reducible refine (chars_Class.calls y1 _ _ F1.out).mono ?_) | (with_reducible refine (chars_Class.calls y0 _ _ F0.out).mono ?_)); rintro e w2 ⟨rfl, hb⟩; replace hS := hS.trans (hb.mono hS.size); clear hb); exact Go.Det.AtEnd.mk hS))
            refine Go.Det.seqW_nil ?_
            intro W hS
            replace hS : Below w1.heap.size w1 W := hS
            obtain ⟨e1, e2⟩ := HCW.out W hS
            simp only [Exit.then]
            go_wp2
            refine ⟨⟨pre' ++ [⟨i', p'⟩] ++ [⟨i, p⟩], q, d', HX.out, by rw [HCat.out], by simp; try omega, hS⟩, by simp [intOf]; omega⟩
    · have his : i = s.size := by have := hinv.2.2.1; omega
      have hend := partInv_end hinv his
      have hnl : pre.length = nL := by rw [← hend]; exact HN.out
      have hss : s.extract 0 i = s := by rw [his]; exact ByteArray.extract_zero_size
      rw [hss, hnl]
      clear hat hinv hend his hss
      have hnl2 : ¬ (nL : Int) < (nL : Int) := by omega
      have hB2 := hB1.trans (hB.mono hB1.size)
      go_wp2_with (go_at_call 25; refine ((callsIn_wide (n := 2)).1 (runs_in s 2 _)).mono ?_; rintro e w' ⟨rfl, rfl⟩)
      have b0 := ((boxed_below B0.out hB).alloc (.cells #[.int .i64 0] 3)).alloc (.cells #[.string s] 9)
      have b1 := (Boxed.new wr 3 (.int .i64 0)).alloc (.cells #[.string s] 9)
      have b2 := Boxed.new (wr.alloc (.cells #[.int .i64 0] 3)) 9 (.string s)
      have hBw : Below w.heap.size w ((wr.alloc (.cells #[.int .i64 0] 3)).alloc (.cells #[.string s] 9)) := (hB2.alloc hB2.size _).alloc (by simp; have := hB2.size; omega) _
      have hz : ((wr.alloc (.cells #[.int .i64 0] 3)).alloc (.cells #[.string s] 9)).heap.size = wr.heap.size + 2 := by simp
      have hlw : w.heap.size < wr.heap.size := by have := (boxed_below B0.out hB).lt; exact this
      simp only [World.size_alloc] at b0 b1 b2
      obtain ⟨W0, hW0⟩ : ∃ W0, ((wr.alloc (.cells #[.int .i64 0] 3)).alloc (.cells #[.string s] 9)) = W0 := ⟨_, rfl⟩
      rw [hW0] at b0 b1 b2 hBw hz ⊢
      clear hW0
      refine (wpIn_wide (n := 3)).1 ?_
      apply wpIn_rangeFunc_ownG rfl (by omega) (gf := 79) (lb := #[.pointer (some ⟨wr.heap.size + 1, 0, none⟩)]) rfl trivial (enters_of Try.func79 (by kernel_rfl) rfl)
        (runs_stops _ (by omega) (wr.heap.size + 1) s (by omega) W0 b2) KB_t (KB_b (by omega)) (Below.refl _ _) (fun _ => rfl)
        (fun pre W => Boxed W wr.heap.size 3 (.int .i64 pre.length) ∧ Boxed W w.heap.size 3 (.int .i64 leave) ∧ Below w.heap.size w W)
        (fun c pre W => c = .exit 4 ∧ Boxed W wr.heap.size 3 (.int .i64 leave) ∧ Boxed W w.heap.size 3 (.int .i64 leave) ∧ Below w.heap.size w W)
        (OwnFrom.and (Own.from (boxed_own wr.heap.size 3 (fun pre : List (RunT s) => .int .i64 pre.length)) _) (OwnFrom.and (Own.from (boxed_own' _ _ _) _) (ownFrom_below (Nat.le_refl _) (by omega))))
        (fun c => OwnFrom.and (ownFrom_pure _ _) (OwnFrom.and (Own.from (boxed_own' _ _ _) _) (OwnFrom.and (Own.from (boxed_own' _ _ _) _) (ownFrom_below (Nat.le_refl _) (by omega)))))
        ⟨b1, b0, hBw⟩
      case hassign =>
        intro l x W K hK
        gi_wp2
        exact hK
      case hbody =>
        rintro l pre x W ⟨k1, k2, k3⟩ hlt
        have c1 := k1.cell
        have c2 := k2.cell
        have c3 := k1.frozen
        have hp1 : (pre.length : Int) ≤ 2000 := by omega
        by_cases hd : ((pre.length : Int) == leave) = true
        · have hle : (pre.length : Int) = leave := by simpa using hd
          have Hle := Lib.hid hle
          clear hle
          gi_wp2
          refine ⟨(KeepsOthers.refl _).from _, rfl, ?_, k2, k3⟩
          rw [← Hle.out]; exact k1
        · have hd' : ((pre.length : Int) == leave) = false := by simpa using hd
          clear hd
          gi_wp2
          refine ⟨(KeepsOthers.setCell _ _ _).from _, Below.heap_setCell _ _ _ _ (by simp), ?_, k2.other (by omega) _, k3.setCell (by simp; omega) _⟩
          have := k1.set (.int .i64 ((pre.length : Int) + 1))
          simpa using this
      case hdone =>
        rintro D ys W hD hys ⟨k1, k2, k3⟩ hK
        have hyl : ys.length = nL := by
          rw [← HN.out, ← hys]; simp [valsR]
        rw [hyl] at k1
        clear hys
        have c1 := k1.cell
        have c2 := k2.cell
        have hDl : D < W.heap.size := (Array.getElem?_eq_some_iff.1 hK).1
        have HK := Lib.hid hK
        clear hK hyl
        simp only [Exit.inBlock, Exit.then]
        go_wp2_with (go_at_call 22; refine (styluslaw01_awake.calls 20 true _ awake1).mono ?_; rintro e w2 ⟨rfl, hb⟩)
        have hK2 : w2.heap[D]? = some (.deferred (some [])) := (hb.block D hDl).trans HK.out
        have hB3 : Below w.heap.size w w2 := k3.trans (hb.mono k3.size)
        refine ⟨by simp, .inl ⟨_, _, rfl, run_takeDeferred hK2, ?_⟩⟩
        exact ⟨_, results_tmp rfl _ _ _, rfl, hB3.trans (belowK_b (w := w) (Nat.le_refl _) w2 D (.deferred (some [])) (.deferred none) (by omega) hK2 rfl rfl)⟩
      case hstop =>
        rintro D c pre W hD _ ⟨rfl, k1, k2, k3⟩ hK
        have c1 := k1.cell
        have c2 := k2.cell
        have hDl : D < W.heap.size := (Array.getElem?_eq_some_iff.1 hK).1
        have HK := Lib.hid hK
        clear hK
        refine (wpIn_wide (n := 3)).2 ?_
        dsimp only
        have hd : (leave == (nL : Int)) = true ∨ (leave == (nL : Int)) = false := by cases (leave == (nL : Int)) <;> simp
        rcases hd with hd | hd
        all_goals
          have Hd := Lib.hid hd
          go_wp2_with (go_at_call 22; refine (styluslaw01_awake.calls 20 true _ awake1).mono ?_; rintro e w2 ⟨rfl, hb⟩)
          have hK2 : w2.heap[D]? = some (.deferred (some [])) := (hb.block D hDl).trans HK.out
          have hB3 : Below w.heap.size w w2 := k3.trans (hb.mono k3.size)
          refine ⟨by simp, .inl ⟨_, _, rfl, run_takeDeferred hK2, ?_⟩⟩
          exact ⟨_, results_tmp rfl _ _ _, rfl, hB3.trans (belowK_b (w := w) (Nat.le_refl _) w2 D (.deferred (some [])) (.deferred none) (by omega) hK2 rfl rfl)⟩
end Go.Proofs.Ythcmfjpheanphaa.Pr
