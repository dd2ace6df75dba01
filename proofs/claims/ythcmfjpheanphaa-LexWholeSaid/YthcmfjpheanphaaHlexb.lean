/- lex.opening, lex.plain, lex.next, walked by hand. -/
import Derived.Test.YthcmfjpheanphaaHname
namespace Go.Proofs.Ythcmfjpheanphaa.Pr
set_option linter.unusedVariables false
set_option linter.unusedSimpArgs false
open Go.RowKit Go.Proofs.YthcmfjpheanphaaW.PrintWords

/-- does a text begin with another one? -/
def prefP (t n : ByteArray) : Bool := if n.size ≤ t.size then (t.extract 0 n.size).toList == n.toList else false
set_option maxHeartbeats 1000000 in
theorem pref1_calls (t n : ByteArray) (ht : t.size ≤ 140737488355328) (hn : n.size ≤ 140737488355328) (w : World) : Calls Try.prog 106 #[.string t, .string n] w fun e w' => e = .returned (.bool (prefP t n)) ∧ w = w' := by
  unfold prefP
  by_cases h : n.size ≤ t.size
  · rw [if_pos h]
    have h1 : decide ((n.size : Int) ≤ (t.size : Int)) = true := by simpa using h
    have h2 : (n.size : Int) ≤ (t.size : Int) := by omega
    have h3 : (0 : Int) ≤ (n.size : Int) := by omega
    go_enter Try.func106, Try.ntmps106
    go_wp2
    go_ret
    exact ⟨rfl, rfl⟩
  · rw [if_neg h]
    have h1 : decide ((n.size : Int) ≤ (t.size : Int)) = false := by simp; omega
    go_enter Try.func106, Try.ntmps106
    go_wp2
    go_ret
    exact ⟨rfl, rfl⟩
theorem pref_calls (t n : ByteArray) (ht : t.size ≤ 140737488355328) (hn : n.size ≤ 140737488355328) (w : World) : Calls Try.prog 58 #[.string t, .string n] w fun e w' => e = .returned (.bool (prefP t n)) ∧ w = w' := by
  have h := fun w => pref1_calls t n ht hn w
  have H := Lib.hid h
  clear h
  go_enter Try.func58, Try.ntmps58
  go_wp2_with (go_at_call 106; refine (H.out _).mono ?_; rintro e w' ⟨rfl, rfl⟩)
  go_ret
  exact ⟨rfl, rfl⟩
/-- lex.opening's test of one name -/
theorem open1_calls (n s : ByteArray) (hn : n.size ≤ 1000000) (hs : s.size ≤ 1000000) (h1 : 1 ≤ s.size) (B : Nat) (W : World) (hc : W.cell? ⟨B, 0, none⟩ = some (.string s)) :
    Calls Try.prog 168 #[.string n, .pointer (some ⟨B, 0, none⟩)] W fun e w' => e = .returned (.bool (prefP (s.extract 1 s.size) n)) ∧ Below W.heap.size W w' := by
  have h := fun w => pref_calls (s.extract 1 s.size) n (by rw [ByteArray.size_extract]; omega) (by omega) w
  have H := Lib.hid h
  clear h
  have hsl : ∀ W, (Instr.slice 9 (.string s) (some (.int .i64 1)) none none).run Try.prog W = .ok (.string (s.extract 1 s.size)) W := fun W => by
    have h2 : (1 : Int) ≤ (s.size : Int) := by omega
    simp [Instr.slice, Instr.sliceBounds, Instr.sliceBound, asIntOf, run_underlying Try.underlying9, h2, h1]
  go_enter Try.func168, Try.ntmps168
  go_wp2_with (go_at_call 58; refine (H.out _).mono ?_; rintro e w' ⟨rfl, rfl⟩)
  go_ret
  exact ⟨rfl, Below.refl _ _⟩

def whiteP (c : Int) : Bool := c == 32 || c == 10
theorem white_fin : ∀ n : Fin 256, chars_White.f (n.val : Int) = some (whiteP (n.val : Int)) ∧ chars_Is.f (n.val : Int) = some (!(classP (n.val : Int) == 0) && !(classP (n.val : Int) == 6)) := by decide +kernel
def plainP (c : Int) : Bool := (!(classP c == 0) && !(classP c == 6)) || whiteP c
theorem white_at (c : Int) (h0 : 0 ≤ c) (h1 : c ≤ 255) : chars_White.f c = some (whiteP c) ∧ chars_Is.f c = some (!(classP c == 0) && !(classP c == 6)) := by
  have := white_fin ⟨c.toNat, by omega⟩
  simpa only [Int.toNat_of_nonneg h0] using this
theorem white_calls (c : Int) (h0 : 0 ≤ c) (h1 : c ≤ 255) (w : World) : Calls Try.prog 35 #[.int .u8 c] w fun e w' => e = .returned (.bool (whiteP c)) ∧ Below w.heap.size w w' :=
  (chars_White.calls c _ w (white_at c h0 h1).1).mono fun _ _ ⟨he, hd⟩ => ⟨he, hd.below⟩
theorem plain_calls (c : Int) (h0 : 0 ≤ c) (h1 : c ≤ 255) (w : World) : Calls Try.prog 161 #[.int .u8 c] w fun e w' => e = .returned (.bool (plainP c)) ∧ Below w.heap.size w w' := by
  have hi := (white_at c h0 h1).2
  have hw := fun w => white_calls c h0 h1 w
  unfold plainP
  generalize (!(classP c == 0) && !(classP c == 6)) = b1 at *
  generalize whiteP c = b2 at *
  have HI := Lib.hid hi
  have HW := Lib.hid hw
  clear hi hw
  cases b1
  · go_enter Try.func161, Try.ntmps161
    go_wp2_with (first | (go_at_call 33; refine (chars_Is.calls c _ _ HI.out).mono ?_; rintro e w1 ⟨rfl, hb⟩) | (go_at_call 35; refine (HW.out _).mono ?_; rintro e w2 ⟨rfl, hb2⟩))
    go_ret
    exact ⟨by simp, hb.trans (hb2.mono hb.size)⟩
  · go_enter Try.func161, Try.ntmps161
    go_wp2_with (first | (go_at_call 33; refine (chars_Is.calls c _ _ HI.out).mono ?_; rintro e w1 ⟨rfl, hb⟩) | (go_at_call 35; refine (HW.out _).mono ?_; rintro e w2 ⟨rfl, hb2⟩))
    go_ret
    exact ⟨by simp, hb⟩

/-- the name behind an opening -/
def openN (s : ByteArray) : Option ByteArray := namesL.find? fun n => prefP (s.extract 1 s.size) n
structure Spot where
  l : S47
  size : Int
  e : Int
def openP (s : ByteArray) (at_ : Int) : Spot :=
  match openN s with
  | none => ⟨⟨0, 0, ⟨#[]⟩, 0⟩, 0, 2⟩
  | some x => ⟨⟨2, letP x, ⟨#[]⟩, at_⟩, (if x.size + 1 < s.size ∧ whiteP (bt s ((x.size + 1 : Nat) : Int)) = true then x.size + 2 else x.size + 1), 0⟩
def encSpot (x : Spot) : Value := .agg #[.int .i64 x.l.f0, .int .u8 x.l.f1, .string x.l.f2, .int .i64 x.l.f3, .int .i64 x.size, .int .i64 x.e]
set_option pp.maxSteps 3000 in
set_option maxRecDepth 100000 in
set_option maxHeartbeats 4000000 in
theorem opening_calls (s : ByteArray) (at_ : Int) (h1 : 1 ≤ s.size) (hs : s.size ≤ 1000000) (w : World) :
    Calls Try.prog 160 #[.string s, .int .i64 at_] w fun e w' => e = .returned (encSpot (openP s at_)) ∧ Below w.heap.size w w' := by
  have hB0 : Below w.heap.size w (((w.alloc (.cells #[.string s] 9)).alloc (.cells #[.int .i64 0, .int .u8 0, .string ⟨#[]⟩, .int .i64 0, .int .i64 0, .int .i64 0] 87)).alloc (.cells (namesL.map Value.string).toArray 9)) := (((Below.refl _ w).alloc (Nat.le_refl _) _).alloc (by simp) _).alloc (by simp; omega) _
  have hbox : ∀ W, Below (((w.alloc (.cells #[.string s] 9)).alloc (.cells #[.int .i64 0, .int .u8 0, .string ⟨#[]⟩, .int .i64 0, .int .i64 0, .int .i64 0] 87)).alloc (.cells (namesL.map Value.string).toArray 9)).heap.size (((w.alloc (.cells #[.string s] 9)).alloc (.cells #[.int .i64 0, .int .u8 0, .string ⟨#[]⟩, .int .i64 0, .int .i64 0, .int .i64 0] 87)).alloc (.cells (namesL.map Value.string).toArray 9)) W → W.cell? ⟨w.heap.size, 0, none⟩ = some (.string s) := fun W hW =>
    (hW.cell (p := ⟨w.heap.size, 0, none⟩) (by simp; omega)).trans (by
      rw [blk_cell (blk_alloc (blk_alloc (blk_new w (.cells #[.string s] 9)) _) _) 0]; rfl)
  have hblk : ∀ W, Below (((w.alloc (.cells #[.string s] 9)).alloc (.cells #[.int .i64 0, .int .u8 0, .string ⟨#[]⟩, .int .i64 0, .int .i64 0, .int .i64 0] 87)).alloc (.cells (namesL.map Value.string).toArray 9)).heap.size (((w.alloc (.cells #[.string s] 9)).alloc (.cells #[.int .i64 0, .int .u8 0, .string ⟨#[]⟩, .int .i64 0, .int .i64 0, .int .i64 0] 87)).alloc (.cells (namesL.map Value.string).toArray 9)) W → W.heap[w.heap.size + 1]? = some (.cells #[.int .i64 0, .int .u8 0, .string ⟨#[]⟩, .int .i64 0, .int .i64 0, .int .i64 0] 87 (0, 0)) := fun W hW =>
    (hW.block (w.heap.size + 1) (by simp)).trans (by
      have := blk_alloc (blk_new (w.alloc (.cells #[.string s] 9)) (.cells #[.int .i64 0, .int .u8 0, .string ⟨#[]⟩, .int .i64 0, .int .i64 0, .int .i64 0] 87)) (.cells (namesL.map Value.string).toArray 9)
      simpa using this)
  have hfn := indexFunc_calls 168 #[.pointer (some ⟨w.heap.size, 0, none⟩)] (enters_of Try.func168 (by kernel_rfl) rfl) (fun n => prefP (s.extract 1 s.size) n) namesL (w.heap.size + 1 + 1) 13 (((w.alloc (.cells #[.string s] 9)).alloc (.cells #[.int .i64 0, .int .u8 0, .string ⟨#[]⟩, .int .i64 0, .int .i64 0, .int .i64 0] 87)).alloc (.cells (namesL.map Value.string).toArray 9)) (by decide)
    (fun W hW j x hx => by have := names_cell hW j x hx; simpa using this)
    (fun x hx W hW => open1_calls x s (by have := (names_sizes x hx).2; omega) hs h1 w.heap.size W (hbox W hW))
  have hcell := fun W hW j x hx => names_cell (w := (w.alloc (.cells #[.string s] 9)).alloc (.cells #[.int .i64 0, .int .u8 0, .string ⟨#[]⟩, .int .i64 0, .int .i64 0, .int .i64 0] 87)) (W := W) hW j x hx
  have HC := Lib.hid hcell
  have HF := Lib.hid hfn
  have HX := Lib.hid hbox
  have HK := Lib.hid hblk
  clear hfn hcell hbox hblk
  have hlen : namesL.length = 13 := rfl
  have hspec := idxP_spec (fun n => prefP (s.extract 1 s.size) n) namesL 0
  unfold openP openN
  rcases hspec with ⟨g1, g2⟩ | ⟨j, x, g1, g2, g3, _⟩
  · have H1 := Lib.hid g1
    rw [g2]
    clear g1 g2
    go_enter Try.func160, Try.ntmps160
    go_wp2_with (first | (go_at_call 85; refine (names_calls _).mono ?_; rintro e w' ⟨rfl, rfl⟩) | (go_at_call 86; refine HF.out.mono ?_; rintro e w' ⟨rfl, hb⟩; rw [H1.out]) | (refine wpList_store_row rfl 87 (.tmp 4) (.tmp 14) rfl (w.heap.size + 1) _ rfl rfl 87 _ (HK.out _ hb) ?h1 ?h2 ?h3 ?h4))
    case h1 => kernel_rfl
    case h2 => rfl
    case h3 => simp [Value.oneCell']
    case h4 =>
      go_wp2
      refine bodyPost_ret (results_cell_row rfl _ _ (w.heap.size + 1) 87 _ (0, 0) _ rfl (setRow_heap _ _ _ _ _ _ (HK.out _ hb)) Try.underlying87 rfl (by kernel_rfl)) rfl ⟨rfl, ?_⟩
      exact Go.Det.below_setRow (hB0.trans (hb.mono hB0.size)) (by omega) _
  · rw [Int.zero_add] at g2
    have H1 := Lib.hid g2
    have hj : j < 13 := (List.getElem?_eq_some_iff.1 g1).1
    have hj0 : ¬ (j : Int) < 0 := by omega
    have hj2 : (j : Int) < 13 := by omega
    have hxs := names_sizes x (List.mem_of_getElem? g1)
    have hx1 : (0 : Int) ≤ (x.size : Int) - 1 := by omega
    have hxz : x.size ≤ 2 := hxs.2
    have HXn := Lib.hid g1
    have hlt := letter_calls x hxs.1 (by omega)
    have HL := Lib.hid hlt
    rw [g3]
    dsimp only
    clear g1 g2 g3 hlt
    by_cases hsz : x.size + 1 < s.size
    · have hsz2 : (1 : Int) + (x.size : Int) < (s.size : Int) := by omega
      have hsz3 : 1 + x.size < s.size := by omega
      have hr := bt_range s ((x.size + 1 : Nat) : Int)
      have hg : ((s[1 + x.size].toNat : Nat) : Int) = bt s ((x.size + 1 : Nat) : Int) := by
        have := bt_at s ((1 + x.size : Nat) : Int) (by rw [Int.toNat_natCast]; exact hsz3)
        rw [Nat.add_comm x.size 1, ← this]; rfl
      have hw := fun W => white_calls _ hr.1 hr.2 W
      generalize bt s ((x.size + 1 : Nat) : Int) = y at *
      have HW := Lib.hid hw
      clear hw
      cases hwy : whiteP y
      · rw [hwy] at HW
        rw [if_neg (fun h => by simp at h)]
        go_enter Try.func160, Try.ntmps160
        go_wp2_with (first | (go_at_call 85; refine (names_calls _).mono ?_; rintro e w' ⟨rfl, rfl⟩) | (go_at_call 86; refine HF.out.mono ?_; rintro e w' ⟨rfl, hb⟩; rw [H1.out]; have hcc := HC.out w' hb j x HXn.out; simp only [World.size_alloc] at hcc; have hbx := HX.out w' hb) | (go_at_call 35; refine (HW.out _).mono ?_; rintro e w2 ⟨rfl, hb2⟩; have hb3 := hb.trans (hb2.mono hb.size); have hcc2 := HC.out w2 hb3 j x HXn.out; simp only [World.size_alloc] at hcc2) | (go_at_call 88; refine (HL.out _).mono ?_; rintro e w3 ⟨rfl, rfl⟩) | (refine wpList_store_row rfl 87 (.tmp 4) (.tmp 41) rfl (w.heap.size + 1) _ rfl rfl 87 _ (HK.out _ hb3) ?h1 ?h2 ?h3 ?h4))
        case h1 => kernel_rfl
        case h2 => rfl
        case h3 => simp [Value.oneCell']
        case h4 =>
          go_wp2
          refine bodyPost_ret (results_cell_row rfl _ _ (w.heap.size + 1) 87 _ (0, 0) _ rfl (setRow_heap _ _ _ _ _ _ (HK.out _ hb3)) Try.underlying87 rfl (by kernel_rfl)) rfl ⟨?_, ?_⟩
          · first | rfl | (rw [Int.add_comm]; rfl)
          · exact Go.Det.below_setRow (hB0.trans (hb3.mono hB0.size)) (by omega) _
      · rw [hwy] at HW
        rw [if_pos ⟨hsz, rfl⟩]
        go_enter Try.func160, Try.ntmps160
        go_wp2_with (first | (go_at_call 85; refine (names_calls _).mono ?_; rintro e w' ⟨rfl, rfl⟩) | (go_at_call 86; refine HF.out.mono ?_; rintro e w' ⟨rfl, hb⟩; rw [H1.out]; have hcc := HC.out w' hb j x HXn.out; simp only [World.size_alloc] at hcc; have hbx := HX.out w' hb) | (go_at_call 35; refine (HW.out _).mono ?_; rintro e w2 ⟨rfl, hb2⟩; have hb3 := hb.trans (hb2.mono hb.size); have hcc2 := HC.out w2 hb3 j x HXn.out; simp only [World.size_alloc] at hcc2) | (go_at_call 88; refine (HL.out _).mono ?_; rintro e w3 ⟨rfl, rfl⟩) | (refine wpList_store_row rfl 87 (.tmp 4) (.tmp 41) rfl (w.heap.size + 1) _ rfl rfl 87 _ (HK.out _ hb3) ?h1 ?h2 ?h3 ?h4))
        case h1 => kernel_rfl
        case h2 => rfl
        case h3 => simp [Value.oneCell']
        case h4 =>
          go_wp2
          refine bodyPost_ret (results_cell_row rfl _ _ (w.heap.size + 1) 87 _ (0, 0) _ rfl (setRow_heap _ _ _ _ _ _ (HK.out _ hb3)) Try.underlying87 rfl (by kernel_rfl)) rfl ⟨?_, ?_⟩
          · rw [show (1 : Int) + (x.size : Int) + 1 = (x.size : Int) + 2 by omega]; rfl
          · exact Go.Det.below_setRow (hB0.trans (hb3.mono hB0.size)) (by omega) _
    · have hsz2 : ¬ (1 : Int) + (x.size : Int) < (s.size : Int) := by omega
      rw [if_neg (fun h => hsz h.1)]
      go_enter Try.func160, Try.ntmps160
      go_wp2_with (first | (go_at_call 85; refine (names_calls _).mono ?_; rintro e w' ⟨rfl, rfl⟩) | (go_at_call 86; refine HF.out.mono ?_; rintro e w' ⟨rfl, hb⟩; rw [H1.out]; have hcc := HC.out w' hb j x HXn.out; simp only [World.size_alloc] at hcc; have hbx := HX.out w' hb) | (go_at_call 88; refine (HL.out _).mono ?_; rintro e w3 ⟨rfl, rfl⟩) | (refine wpList_store_row rfl 87 (.tmp 4) (.tmp 41) rfl (w.heap.size + 1) _ rfl rfl 87 _ (HK.out _ hb) ?h1 ?h2 ?h3 ?h4))
      case h1 => kernel_rfl
      case h2 => rfl
      case h3 => simp [Value.oneCell']
      case h4 =>
        go_wp2
        refine bodyPost_ret (results_cell_row rfl _ _ (w.heap.size + 1) 87 _ (0, 0) _ rfl (setRow_heap _ _ _ _ _ _ (HK.out _ hb)) Try.underlying87 rfl (by kernel_rfl)) rfl ⟨?_, ?_⟩
        · first | rfl | (rw [Int.add_comm]; rfl)
        · exact Go.Det.below_setRow (hB0.trans (hb.mono hB0.size)) (by omega) _
end Go.Proofs.Ythcmfjpheanphaa.Pr
