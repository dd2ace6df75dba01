/- Texts of this seat, one behind the other. -/
import Derived.Lib.ConvBytes
import Derived.Maps.Views
import Derived.WideKeyPair
import Derived.RangeFuncNested
import Derived.RangeFuncBound
import Derived.RangeFuncCalls
import Derived.RangeFuncLeaves
import Derived.Shelf.Abstract
import Derived.Shelf.RegionOpen
import Derived.OwnWalkIn
import Derived.TacticsInMore
import Derived.LoopNIn
import Derived.LoopIn
import Derived.RangeFuncBox
import Derived.Maps.AppendAt
import Derived.Test.YthcmfjpheanphaaXNormWhite1
import Derived.Test.YthcmfjpheanphaaXNormWhite2
import Derived.Test.YthcmfjpheanphaaXNormWhite3
import Derived.Test.YthcmfjpheanphaaXNormWhite4
set_option linter.unusedVariables false
set_option linter.unusedSimpArgs false
namespace Go.Proofs.Ythcmfjpheanphaa.Pr
open Go.RowKit Go.Proofs.YthcmfjpheanphaaW.PrintWords
def namesL : List ByteArray := [⟨#[104, 49]⟩, ⟨#[104, 50]⟩, ⟨#[104, 51]⟩, ⟨#[112]⟩, ⟨#[108]⟩, ⟨#[105]⟩, ⟨#[116]⟩, ⟨#[114]⟩, ⟨#[99]⟩, ⟨#[110]⟩, ⟨#[101]⟩, ⟨#[115]⟩, ⟨#[107]⟩]
set_option maxHeartbeats 1000000 in
theorem names_calls (w : World) : Calls Try.prog 85 #[] w fun e w' => e = .returned (.slice (some ⟨w.heap.size, 0, none⟩) 13 13) ∧ w' = w.alloc (.cells (namesL.map Value.string).toArray 9) := by
 go_enter Try.func85, Try.ntmps85
 go_wp2
 go_ret
 exact ⟨rfl, rfl⟩
theorem names_cell {w W : World} (h : Below (w.alloc (.cells (namesL.map Value.string).toArray 9)).heap.size (w.alloc (.cells (namesL.map Value.string).toArray 9)) W) (j : Nat) (x : ByteArray) (hx : namesL[j]? = some x) :
  W.cell? ⟨w.heap.size, j, none⟩ = some (.string x) := by
 rw [h.cell (p := ⟨w.heap.size, j, none⟩) (by simp)]
 rw [blk_cell (blk_new w (.cells (namesL.map Value.string).toArray 9)) j]
 simp [hx]
def letP (n : ByteArray) : Int := bt n ((n.size : Int) - 1)
set_option maxHeartbeats 1000000 in
theorem letter_calls (n : ByteArray) (h : 0 < n.size) (hn : n.size ≤ 1000000) (w : World) : Calls Try.prog 88 #[.string n] w fun e w' => e = .returned (.int .u8 (letP n)) ∧ w = w' := by
 have h1 : (0 : Int) ≤ (n.size : Int) - 1 := by omega
 have h2 : (n.size : Int) - 1 < n.size := by omega
 have h3 : n.size - 1 < n.size := by omega
 have e1 : (n.size : Int) - 1 = ((n.size - 1 : Nat) : Int) := by omega
 have hg : ((n[n.size - 1].toNat : Nat) : Int) = letP n := by
  unfold letP
  rw [e1]
  exact bt_at n ((n.size - 1 : Nat) : Int) (by simpa using h3)
 have hix : ∀ W, (Instr.index 9 (.string n) (.int .i64 ((n.size : Int) - 1))).run Try.prog W = .ok (.int .u8 (letP n)) W := fun W => by
  rw [← hg, e1]
  go_simp
 generalize letP n = y at *
 clear hg e1
 go_enter Try.func88, Try.ntmps88
 go_wp2
 go_ret
 exact ⟨rfl, rfl⟩
theorem name1_calls (n : ByteArray) (h : 0 < n.size) (hn : n.size ≤ 1000000) (c : Int) (B : Nat) (W : World) (hB : B < W.heap.size) (hc : W.cell? ⟨B, 0, none⟩ = some (.int .u8 c)) :
  Calls Try.prog 87 #[.string n, .pointer (some ⟨B, 0, none⟩)] W fun e w' => e = .returned (.bool (letP n == c)) ∧ Below W.heap.size W w' := by
 have hcW : ∀ W', Below W.heap.size W W' → W'.cell? ⟨B, 0, none⟩ = some (.int .u8 c) := fun W' hb => (hb.cell (p := ⟨B, 0, none⟩) hB).trans hc
 have HC := Lib.hid hcW
 clear hcW hc
 have hl := letter_calls n h hn
 have HL := Lib.hid hl
 clear hl
 go_enter Try.func87, Try.ntmps87
 go_wp2_with fail
 refine Go.Det.region_all (fun W' => Below W.heap.size W W') (by kernel_rfl) (by kernel_rfl) (below_drew (Below.refl _ _)) ?_
 repeat (apply Go.Det.seqW_cons; focus (intro W' hS; replace hS : Below W.heap.size W W' := hS; have hcc := HC.out W' hS; go_wp2_with (go_at_call 88; (with_reducible refine (HL.out _).mono ?_); rintro e w1 ⟨rfl, rfl⟩); exact Go.Det.AtEnd.mk hS))
 refine Go.Det.seqW_nil ?_
 intro W' hS
 replace hS : Below W.heap.size W W' := hS
 simp only [Exit.then]
 go_wp2
 go_ret
 exact ⟨rfl, hS⟩
def idxP (p : ByteArray → Bool) : List ByteArray → Int → Int
 | [], _ => -1
 | x :: xs, i => if p x then i else idxP p xs (i + 1)
theorem indexFunc_calls (g : Nat) (lb : Array Value) (eg : ∀ args w, (callFunc g args).run Try.prog w = .ok (.enter g args) w) (p : ByteArray → Bool) (xs : List ByteArray) (blk c : Nat) (w : World) (hx : xs.length ≤ 1000000)
  (hcell : ∀ W, Below w.heap.size w W → ∀ (j : Nat) x, xs[j]? = some x → W.cell? ⟨blk, j, none⟩ = some (.string x))
  (hg : ∀ x ∈ xs, ∀ W, Below w.heap.size w W → Calls Try.prog g (#[.string x] ++ lb) W fun e w' => e = .returned (.bool (p x)) ∧ Below W.heap.size W w') :
  Calls Try.prog 86 #[.slice (some ⟨blk, 0, none⟩) xs.length c, .func (.func g) #[] lb] w fun e w' => e = .returned (.int .i64 (idxP p xs 0)) ∧ Below w.heap.size w w' := by
 have HC := Lib.hid hcell
 have HG := Lib.hid hg
 clear hcell hg
 obtain ⟨n, hn⟩ : ∃ n, xs.length = n := ⟨_, rfl⟩
 rw [hn] at hx ⊢
 have HN := Lib.hid hn
 clear hn
 go_enter Try.func86, Try.ntmps86
 go_wp2
 go_loopw [8] (fun v wr => ∃ (k : Nat) (rest : List ByteArray), xs.drop k = rest ∧ Hid (idxP p xs 0 = idxP p rest k) ∧ v = .int .i64 k ∧ k ≤ n ∧ Below w.heap.size w wr) (fun v _ => n - (intOf v).toNat)
 case atStart => exact ⟨0, xs, rfl, Lib.hid rfl, rfl, by omega, Below.refl _ _⟩
 case round =>
  obtain ⟨k, rest, hr, H, rfl, hk, hB⟩ := hrel
  by_cases hlt : k < n
  ·have hl2 : (k : Int) < (n : Int) := by omega
   obtain ⟨x, rest, rfl⟩ : ∃ x r, rest = x :: r := by
    cases rest with
    | nil =>
     have := congrArg List.length hr
     simp at this
     have := HN.out
     omega
    | cons x r => exact ⟨x, r, rfl⟩
   have hxk : xs[k]? = some x := by
    have := congrArg (fun l => l[0]?) hr
    simpa using this
   have hr' : xs.drop (k + 1) = rest := by
    have := congrArg List.tail hr
    simpa using this
   have HR := Lib.hid hr'
   have hcc := HC.out wr hB k x hxk
   have hcall := HG.out x (List.mem_of_getElem? hxk) wr hB
   clear hr hr' hxk
   cases hp : p x with
   | true =>
    rw [hp] at hcall
    have hi : idxP p xs 0 = k := by rw [H.out]; simp [idxP, hp]
    have HI := Lib.hid hi
    clear hi hp H
    go_wp2_with (go_at_fn g; refine hcall.mono ?_; rintro e w' ⟨rfl, hb'⟩)
    go_ret
    exact ⟨by rw [HI.out]; rfl, hB.trans (hb'.mono hB.size)⟩
   | false =>
    rw [hp] at hcall
    have hi : idxP p xs 0 = idxP p rest ((k + 1 : Nat) : Int) := by rw [H.out]; simp [idxP, hp]
    have HI := Lib.hid hi
    clear hi hp H
    go_wp2_with (go_at_fn g; refine hcall.mono ?_; rintro e w' ⟨rfl, hb'⟩)
    go_roundw
    case rel => exact ⟨k + 1, rest, HR.out, HI, by go_num, by omega, hB.trans (hb'.mono hB.size)⟩
    case measure => simp [intOf]; omega
  ·have hk2 : ¬ (k : Int) < (n : Int) := by omega
   have hnil : rest = [] := by
    rw [← hr]; apply List.drop_eq_nil_of_le; have := HN.out; omega
   subst hnil
   have hi : idxP p xs 0 = -1 := H.out
   have HI := Lib.hid hi
   clear hi hr H
   go_wp2
   go_ret
   exact ⟨by rw [HI.out]; rfl, hB⟩
theorem idxP_spec (p : ByteArray → Bool) : ∀ (xs : List ByteArray) (i : Int), (idxP p xs i = -1 ∧ xs.find? p = none) ∨ ∃ (j : Nat) (x : ByteArray), xs[j]? = some x ∧ idxP p xs i = i + j ∧ xs.find? p = some x ∧ p x = true
 | [], i => .inl ⟨rfl, rfl⟩
 | x :: xs, i => by
  cases hp : p x with
  | true => exact .inr ⟨0, x, rfl, by simp [idxP, hp], by simp [hp], hp⟩
  | false =>
   rcases idxP_spec p xs (i + 1) with ⟨h1, h2⟩ | ⟨j, y, h1, h2, h3, h4⟩
   ·exact .inl ⟨by simp [idxP, hp, h1], by simp [hp, h2]⟩
   ·exact .inr ⟨j + 1, y, by simpa using h1, by simp [idxP, hp, h2]; omega, by simp [hp, h3], h4⟩
theorem names_sizes : ∀ x ∈ namesL, 0 < x.size ∧ x.size ≤ 2 := by decide +kernel
def nameP (c : Int) : ByteArray := ((namesL.find? fun n => letP n == c)).getD ⟨#[]⟩
set_option maxHeartbeats 1000000 in
theorem name_calls (c : Int) (w : World) : Calls Try.prog 48 #[.int .u8 c] w fun e w' => e = .returned (.string (nameP c)) ∧ Below w.heap.size w w' := by
 have hB0 : Below w.heap.size w ((w.alloc (.cells #[.int .u8 c] 5)).alloc (.cells (namesL.map Value.string).toArray 9)) := ((Below.refl _ w).alloc (Nat.le_refl _) _).alloc (by simp) _
 have hfn := indexFunc_calls 87 #[.pointer (some ⟨w.heap.size, 0, none⟩)] (enters_of Try.func87 (by kernel_rfl) rfl) (fun n => letP n == c) namesL (w.heap.size + 1) 13 ((w.alloc (.cells #[.int .u8 c] 5)).alloc (.cells (namesL.map Value.string).toArray 9)) (by decide)
  (fun W hW j x hx => by have := names_cell hW j x hx; simpa using this)
  (fun x hx W hW => name1_calls x (names_sizes x hx).1 (by have := (names_sizes x hx).2; omega) c w.heap.size W (by have := hW.size; simp at this; omega)
   ((hW.cell (p := ⟨w.heap.size, 0, none⟩) (by simp; omega)).trans (by
    rw [blk_cell (blk_alloc (blk_new w (.cells #[.int .u8 c] 5)) _) 0]; rfl)))
 have hcell := fun W hW j x hx => names_cell (w := w.alloc (.cells #[.int .u8 c] 5)) (W := W) hW j x hx
 have HC := Lib.hid hcell
 have HF := Lib.hid hfn
 clear hfn hcell
 have hlen : namesL.length = 13 := rfl
 have hspec := idxP_spec (fun n => letP n == c) namesL 0
 unfold nameP
 rcases hspec with ⟨h1, h2⟩ | ⟨j, x, h1, h2, h3, _⟩
 ·have H1 := Lib.hid h1
  rw [h2]
  clear h1 h2
  go_enter Try.func48, Try.ntmps48
  go_wp2_with (first | (go_at_call 85; refine (names_calls _).mono ?_; rintro e w' ⟨rfl, rfl⟩) | (go_at_call 86; refine HF.out.mono ?_; rintro e w' ⟨rfl, hb⟩; rw [H1.out]))
  go_ret
  exact ⟨rfl, hB0.trans (hb.mono hB0.size)⟩
 ·rw [Int.zero_add] at h2
  have H1 := Lib.hid h2
  have hj : j < 13 := (List.getElem?_eq_some_iff.1 h1).1
  have hj0 : ¬ (j : Int) < 0 := by omega
  have hj2 : (j : Int) < 13 := by omega
  have HX := Lib.hid h1
  rw [h3]
  clear h1 h2 h3
  go_enter Try.func48, Try.ntmps48
  go_wp2_with (first | (go_at_call 85; refine (names_calls _).mono ?_; rintro e w' ⟨rfl, rfl⟩) | (go_at_call 86; refine HF.out.mono ?_; rintro e w' ⟨rfl, hb⟩; rw [H1.out]; have hcc := HC.out w' hb j x HX.out; simp only [World.size_alloc] at hcc))
  go_ret
  exact ⟨rfl, hB0.trans (hb.mono hB0.size)⟩
def lex_Name.f (a0 : Int) : Option ByteArray := some (nameP a0)
def prefP (t n : ByteArray) : Bool := if n.size ≤ t.size then (t.extract 0 n.size).toList == n.toList else false
set_option maxHeartbeats 1000000 in
theorem pref1_calls (t n : ByteArray) (ht : t.size ≤ 140737488355328) (hn : n.size ≤ 140737488355328) (w : World) : Calls Try.prog 106 #[.string t, .string n] w fun e w' => e = .returned (.bool (prefP t n)) ∧ w = w' := by
 unfold prefP
 by_cases h : n.size ≤ t.size
 ·rw [if_pos h]
  have h1 : decide ((n.size : Int) ≤ (t.size : Int)) = true := by simpa using h
  have h2 : (n.size : Int) ≤ (t.size : Int) := by omega
  have h3 : (0 : Int) ≤ (n.size : Int) := by omega
  go_enter Try.func106, Try.ntmps106
  go_wp2
  go_ret
  exact ⟨rfl, rfl⟩
 ·rw [if_neg h]
  have h1 : decide ((n.size : Int) ≤ (t.size : Int)) = false := by simp; omega
  go_enter Try.func106, Try.ntmps106
  go_wp2
  go_ret
  exact ⟨rfl, rfl⟩
theorem pref_calls (t n : ByteArray) (ht : t.size ≤ 140737488355328) (hn : n.size ≤ 140737488355328) (w : World) : Calls Try.prog 58 #[.string t, .string n] w fun e w' => e = .returned (.bool (prefP t n)) ∧ w = w' := by
 have h := fun w => pref1_calls t n ht hn w
 have H := Lib.hid h
 clear h
 go_enter Try.func58, Try.ntmps58
 go_wp2_with (go_at_call 106; refine (H.out _).mono ?_; rintro e w' ⟨rfl, rfl⟩)
 go_ret
 exact ⟨rfl, rfl⟩
theorem open1_calls (n s : ByteArray) (hn : n.size ≤ 1000000) (hs : s.size ≤ 1000000) (h1 : 1 ≤ s.size) (B : Nat) (W : World) (hc : W.cell? ⟨B, 0, none⟩ = some (.string s)) :
  Calls Try.prog 168 #[.string n, .pointer (some ⟨B, 0, none⟩)] W fun e w' => e = .returned (.bool (prefP (s.extract 1 s.size) n)) ∧ Below W.heap.size W w' := by
 have h := fun w => pref_calls (s.extract 1 s.size) n (by rw [ByteArray.size_extract]; omega) (by omega) w
 have H := Lib.hid h
 clear h
 have hsl : ∀ W, (Instr.slice 9 (.string s) (some (.int .i64 1)) none none).run Try.prog W = .ok (.string (s.extract 1 s.size)) W := fun W => by
  have h2 : (1 : Int) ≤ (s.size : Int) := by omega
  simp [Instr.slice, Instr.sliceBounds, Instr.sliceBound, asIntOf, run_underlying Try.underlying9, h2, h1]
 go_enter Try.func168, Try.ntmps168
 go_wp2_with (go_at_call 58; refine (H.out _).mono ?_; rintro e w' ⟨rfl, rfl⟩)
 go_ret
 exact ⟨rfl, Below.refl _ _⟩
def whiteP (c : Int) : Bool := c == 32 || c == 10
theorem white_fin : ∀ n : Fin 256, chars_White.f (n.val : Int) = some (whiteP (n.val : Int)) ∧ chars_Is.f (n.val : Int) = some (!(classP (n.val : Int) == 0) && !(classP (n.val : Int) == 6)) := by decide +kernel
def plainP (c : Int) : Bool := (!(classP c == 0) && !(classP c == 6)) || whiteP c
theorem white_at (c : Int) (h0 : 0 ≤ c) (h1 : c ≤ 255) : chars_White.f c = some (whiteP c) ∧ chars_Is.f c = some (!(classP c == 0) && !(classP c == 6)) := by
 have := white_fin ⟨c.toNat, by omega⟩
 simpa only [Int.toNat_of_nonneg h0] using this
theorem white_calls (c : Int) (h0 : 0 ≤ c) (h1 : c ≤ 255) (w : World) : Calls Try.prog 35 #[.int .u8 c] w fun e w' => e = .returned (.bool (whiteP c)) ∧ Below w.heap.size w w' :=
 (chars_White.calls c _ w (white_at c h0 h1).1).mono fun _ _ ⟨he, hd⟩ => ⟨he, hd.below⟩
theorem plain_calls (c : Int) (h0 : 0 ≤ c) (h1 : c ≤ 255) (w : World) : Calls Try.prog 161 #[.int .u8 c] w fun e w' => e = .returned (.bool (plainP c)) ∧ Below w.heap.size w w' := by
 have hi := (white_at c h0 h1).2
 have hw := fun w => white_calls c h0 h1 w
 unfold plainP
 generalize (!(classP c == 0) && !(classP c == 6)) = b1 at *
 generalize whiteP c = b2 at *
 have HI := Lib.hid hi
 have HW := Lib.hid hw
 clear hi hw
 cases b1
 ·go_enter Try.func161, Try.ntmps161
  go_wp2_with (first | (go_at_call 33; refine (chars_Is.calls c _ _ HI.out).mono ?_; rintro e w1 ⟨rfl, hb⟩) | (go_at_call 35; refine (HW.out _).mono ?_; rintro e w2 ⟨rfl, hb2⟩))
  go_ret
  exact ⟨by simp, hb.trans (hb2.mono hb.size)⟩
 ·go_enter Try.func161, Try.ntmps161
  go_wp2_with (first | (go_at_call 33; refine (chars_Is.calls c _ _ HI.out).mono ?_; rintro e w1 ⟨rfl, hb⟩) | (go_at_call 35; refine (HW.out _).mono ?_; rintro e w2 ⟨rfl, hb2⟩))
  go_ret
  exact ⟨by simp, hb⟩
def openN (s : ByteArray) : Option ByteArray := namesL.find? fun n => prefP (s.extract 1 s.size) n
structure Spot where
 l : S47
 size : Int
 e : Int
def openP (s : ByteArray) (at_ : Int) : Spot :=
 match openN s with
 | none => ⟨⟨0, 0, ⟨#[]⟩, 0⟩, 0, 2⟩
 | some x => ⟨⟨2, letP x, ⟨#[]⟩, at_⟩, (if x.size + 1 < s.size ∧ whiteP (bt s ((x.size + 1 : Nat) : Int)) = true then x.size + 2 else x.size + 1), 0⟩
def encSpot (x : Spot) : Value := .agg #[.int .i64 x.l.f0, .int .u8 x.l.f1, .string x.l.f2, .int .i64 x.l.f3, .int .i64 x.size, .int .i64 x.e]
set_option pp.maxSteps 3000 in
set_option maxRecDepth 100000 in
set_option maxHeartbeats 4000000 in
theorem opening_calls (s : ByteArray) (at_ : Int) (h1 : 1 ≤ s.size) (hs : s.size ≤ 1000000) (w : World) :
  Calls Try.prog 160 #[.string s, .int .i64 at_] w fun e w' => e = .returned (encSpot (openP s at_)) ∧ Below w.heap.size w w' := by
 have hB0 : Below w.heap.size w (((w.alloc (.cells #[.string s] 9)).alloc (.cells #[.int .i64 0, .int .u8 0, .string ⟨#[]⟩, .int .i64 0, .int .i64 0, .int .i64 0] 87)).alloc (.cells (namesL.map Value.string).toArray 9)) := (((Below.refl _ w).alloc (Nat.le_refl _) _).alloc (by simp) _).alloc (by simp; omega) _
 have hbox : ∀ W, Below (((w.alloc (.cells #[.string s] 9)).alloc (.cells #[.int .i64 0, .int .u8 0, .string ⟨#[]⟩, .int .i64 0, .int .i64 0, .int .i64 0] 87)).alloc (.cells (namesL.map Value.string).toArray 9)).heap.size (((w.alloc (.cells #[.string s] 9)).alloc (.cells #[.int .i64 0, .int .u8 0, .string ⟨#[]⟩, .int .i64 0, .int .i64 0, .int .i64 0] 87)).alloc (.cells (namesL.map Value.string).toArray 9)) W → W.cell? ⟨w.heap.size, 0, none⟩ = some (.string s) := fun W hW =>
  (hW.cell (p := ⟨w.heap.size, 0, none⟩) (by simp; omega)).trans (by
   rw [blk_cell (blk_alloc (blk_alloc (blk_new w (.cells #[.string s] 9)) _) _) 0]; rfl)
 have hblk : ∀ W, Below (((w.alloc (.cells #[.string s] 9)).alloc (.cells #[.int .i64 0, .int .u8 0, .string ⟨#[]⟩, .int .i64 0, .int .i64 0, .int .i64 0] 87)).alloc (.cells (namesL.map Value.string).toArray 9)).heap.size (((w.alloc (.cells #[.string s] 9)).alloc (.cells #[.int .i64 0, .int .u8 0, .string ⟨#[]⟩, .int .i64 0, .int .i64 0, .int .i64 0] 87)).alloc (.cells (namesL.map Value.string).toArray 9)) W → W.heap[w.heap.size + 1]? = some (.cells #[.int .i64 0, .int .u8 0, .string ⟨#[]⟩, .int .i64 0, .int .i64 0, .int .i64 0] 87 (0, 0)) := fun W hW =>
  (hW.block (w.heap.size + 1) (by simp)).trans (by
   have := blk_alloc (blk_new (w.alloc (.cells #[.string s] 9)) (.cells #[.int .i64 0, .int .u8 0, .string ⟨#[]⟩, .int .i64 0, .int .i64 0, .int .i64 0] 87)) (.cells (namesL.map Value.string).toArray 9)
   simpa using this)
 have hfn := indexFunc_calls 168 #[.pointer (some ⟨w.heap.size, 0, none⟩)] (enters_of Try.func168 (by kernel_rfl) rfl) (fun n => prefP (s.extract 1 s.size) n) namesL (w.heap.size + 1 + 1) 13 (((w.alloc (.cells #[.string s] 9)).alloc (.cells #[.int .i64 0, .int .u8 0, .string ⟨#[]⟩, .int .i64 0, .int .i64 0, .int .i64 0] 87)).alloc (.cells (namesL.map Value.string).toArray 9)) (by decide)
  (fun W hW j x hx => by have := names_cell hW j x hx; simpa using this)
  (fun x hx W hW => open1_calls x s (by have := (names_sizes x hx).2; omega) hs h1 w.heap.size W (hbox W hW))
 have hcell := fun W hW j x hx => names_cell (w := (w.alloc (.cells #[.string s] 9)).alloc (.cells #[.int .i64 0, .int .u8 0, .string ⟨#[]⟩, .int .i64 0, .int .i64 0, .int .i64 0] 87)) (W := W) hW j x hx
 have HC := Lib.hid hcell
 have HF := Lib.hid hfn
 have HX := Lib.hid hbox
 have HK := Lib.hid hblk
 clear hfn hcell hbox hblk
 have hlen : namesL.length = 13 := rfl
 have hspec := idxP_spec (fun n => prefP (s.extract 1 s.size) n) namesL 0
 unfold openP openN
 rcases hspec with ⟨g1, g2⟩ | ⟨j, x, g1, g2, g3, _⟩
 ·have H1 := Lib.hid g1
  rw [g2]
  clear g1 g2
  go_enter Try.func160, Try.ntmps160
  go_wp2_with (first | (go_at_call 85; refine (names_calls _).mono ?_; rintro e w' ⟨rfl, rfl⟩) | (go_at_call 86; refine HF.out.mono ?_; rintro e w' ⟨rfl, hb⟩; rw [H1.out]) | (refine wpList_store_row rfl 87 (.tmp 4) (.tmp 14) rfl (w.heap.size + 1) _ rfl rfl 87 _ (HK.out _ hb) ?h1 ?h2 ?h3 ?h4))
  case h1 => kernel_rfl
  case h2 => rfl
  case h3 => simp [Value.oneCell']
  case h4 =>
   go_wp2
   refine bodyPost_ret (results_cell_row rfl _ _ (w.heap.size + 1) 87 _ (0, 0) _ rfl (setRow_heap _ _ _ _ _ _ (HK.out _ hb)) Try.underlying87 rfl (by kernel_rfl)) rfl ⟨rfl, ?_⟩
   exact Go.Det.below_setRow (hB0.trans (hb.mono hB0.size)) (by omega) _
 ·rw [Int.zero_add] at g2
  have H1 := Lib.hid g2
  have hj : j < 13 := (List.getElem?_eq_some_iff.1 g1).1
  have hj0 : ¬ (j : Int) < 0 := by omega
  have hj2 : (j : Int) < 13 := by omega
  have hxs := names_sizes x (List.mem_of_getElem? g1)
  have hx1 : (0 : Int) ≤ (x.size : Int) - 1 := by omega
  have hxz : x.size ≤ 2 := hxs.2
  have HXn := Lib.hid g1
  have hlt := letter_calls x hxs.1 (by omega)
  have HL := Lib.hid hlt
  rw [g3]
  dsimp only
  clear g1 g2 g3 hlt
  by_cases hsz : x.size + 1 < s.size
  ·have hsz2 : (1 : Int) + (x.size : Int) < (s.size : Int) := by omega
   have hsz3 : 1 + x.size < s.size := by omega
   have hr := bt_range s ((x.size + 1 : Nat) : Int)
   have hg : ((s[1 + x.size].toNat : Nat) : Int) = bt s ((x.size + 1 : Nat) : Int) := by
    have := bt_at s ((1 + x.size : Nat) : Int) (by rw [Int.toNat_natCast]; exact hsz3)
    rw [Nat.add_comm x.size 1, ← this]; rfl
   have hw := fun W => white_calls _ hr.1 hr.2 W
   generalize bt s ((x.size + 1 : Nat) : Int) = y at *
   have HW := Lib.hid hw
   clear hw
   cases hwy : whiteP y
   ·rw [hwy] at HW
    rw [if_neg (fun h => by simp at h)]
    go_enter Try.func160, Try.ntmps160
    go_wp2_with (first | (go_at_call 85; refine (names_calls _).mono ?_; rintro e w' ⟨rfl, rfl⟩) | (go_at_call 86; refine HF.out.mono ?_; rintro e w' ⟨rfl, hb⟩; rw [H1.out]; have hcc := HC.out w' hb j x HXn.out; simp only [World.size_alloc] at hcc; have hbx := HX.out w' hb) | (go_at_call 35; refine (HW.out _).mono ?_; rintro e w2 ⟨rfl, hb2⟩; have hb3 := hb.trans (hb2.mono hb.size); have hcc2 := HC.out w2 hb3 j x HXn.out; simp only [World.size_alloc] at hcc2) | (go_at_call 88; refine (HL.out _).mono ?_; rintro e w3 ⟨rfl, rfl⟩) | (refine wpList_store_row rfl 87 (.tmp 4) (.tmp 41) rfl (w.heap.size + 1) _ rfl rfl 87 _ (HK.out _ hb3) ?h1 ?h2 ?h3 ?h4))
    case h1 => kernel_rfl
    case h2 => rfl
    case h3 => simp [Value.oneCell']
    case h4 =>
     go_wp2
     refine bodyPost_ret (results_cell_row rfl _ _ (w.heap.size + 1) 87 _ (0, 0) _ rfl (setRow_heap _ _ _ _ _ _ (HK.out _ hb3)) Try.underlying87 rfl (by kernel_rfl)) rfl ⟨?_, ?_⟩
     ·first | rfl | (rw [Int.add_comm]; rfl)
     ·exact Go.Det.below_setRow (hB0.trans (hb3.mono hB0.size)) (by omega) _
   ·rw [hwy] at HW
    rw [if_pos ⟨hsz, rfl⟩]
    go_enter Try.func160, Try.ntmps160
    go_wp2_with (first | (go_at_call 85; refine (names_calls _).mono ?_; rintro e w' ⟨rfl, rfl⟩) | (go_at_call 86; refine HF.out.mono ?_; rintro e w' ⟨rfl, hb⟩; rw [H1.out]; have hcc := HC.out w' hb j x HXn.out; simp only [World.size_alloc] at hcc; have hbx := HX.out w' hb) | (go_at_call 35; refine (HW.out _).mono ?_; rintro e w2 ⟨rfl, hb2⟩; have hb3 := hb.trans (hb2.mono hb.size); have hcc2 := HC.out w2 hb3 j x HXn.out; simp only [World.size_alloc] at hcc2) | (go_at_call 88; refine (HL.out _).mono ?_; rintro e w3 ⟨rfl, rfl⟩) | (refine wpList_store_row rfl 87 (.tmp 4) (.tmp 41) rfl (w.heap.size + 1) _ rfl rfl 87 _ (HK.out _ hb3) ?h1 ?h2 ?h3 ?h4))
    case h1 => kernel_rfl
    case h2 => rfl
    case h3 => simp [Value.oneCell']
    case h4 =>
     go_wp2
     refine bodyPost_ret (results_cell_row rfl _ _ (w.heap.size + 1) 87 _ (0, 0) _ rfl (setRow_heap _ _ _ _ _ _ (HK.out _ hb3)) Try.underlying87 rfl (by kernel_rfl)) rfl ⟨?_, ?_⟩
     ·rw [show (1 : Int) + (x.size : Int) + 1 = (x.size : Int) + 2 by omega]; rfl
     ·exact Go.Det.below_setRow (hB0.trans (hb3.mono hB0.size)) (by omega) _
  ·have hsz2 : ¬ (1 : Int) + (x.size : Int) < (s.size : Int) := by omega
   rw [if_neg (fun h => hsz h.1)]
   go_enter Try.func160, Try.ntmps160
   go_wp2_with (first | (go_at_call 85; refine (names_calls _).mono ?_; rintro e w' ⟨rfl, rfl⟩) | (go_at_call 86; refine HF.out.mono ?_; rintro e w' ⟨rfl, hb⟩; rw [H1.out]; have hcc := HC.out w' hb j x HXn.out; simp only [World.size_alloc] at hcc; have hbx := HX.out w' hb) | (go_at_call 88; refine (HL.out _).mono ?_; rintro e w3 ⟨rfl, rfl⟩) | (refine wpList_store_row rfl 87 (.tmp 4) (.tmp 41) rfl (w.heap.size + 1) _ rfl rfl 87 _ (HK.out _ hb) ?h1 ?h2 ?h3 ?h4))
   case h1 => kernel_rfl
   case h2 => rfl
   case h3 => simp [Value.oneCell']
   case h4 =>
    go_wp2
    refine bodyPost_ret (results_cell_row rfl _ _ (w.heap.size + 1) 87 _ (0, 0) _ rfl (setRow_heap _ _ _ _ _ _ (HK.out _ hb)) Try.underlying87 rfl (by kernel_rfl)) rfl ⟨?_, ?_⟩
    ·first | rfl | (rw [Int.add_comm]; rfl)
    ·exact Go.Det.below_setRow (hB0.trans (hb.mono hB0.size)) (by omega) _
def lowI (c : Int) : Int := if classP c = 2 then bits .or .u8 c 32 else c
def Row8 (W : World) (B : Nat) (xs : List Int) : Prop := ∃ (cs : Array Value), W.heap[B]? = some (.cells cs 5 (cs.size, cs.size + 1)) ∧ xs.length ≤ cs.size ∧ ∀ j, j < xs.length → cs[j]? = some (.int .u8 (xs.getD j 0))
theorem Row8.cell {W : World} {B : Nat} {xs : List Int} (h : Row8 W B xs) (j : Nat) (hj : j < xs.length) : W.cell? ⟨B, j, none⟩ = some (.int .u8 (xs.getD j 0)) := by
 obtain ⟨cs, h1, h2, h3⟩ := h
 simp only [World.cell?, h1]
 exact h3 j hj
theorem Row8.free {W : World} {B : Nat} {xs : List Int} (h : Row8 W B xs) (j : Nat) (hj : j < xs.length) : W.frozen? ⟨B, j, none⟩ = false := by
 obtain ⟨cs, h1, h2, h3⟩ := h
 simp only [World.frozen?, h1]
 simp
 omega
theorem Row8.set {W : World} {B : Nat} {xs : List Int} (h : Row8 W B xs) (j : Nat) (x : Int) : Row8 (W.setCell ⟨B, j, none⟩ (.int .u8 x)) B (xs.set j x) := by
 obtain ⟨cs, h1, h2, h3⟩ := h
 refine ⟨cs.setIfInBounds j (.int .u8 x), ?_, by simpa using h2, fun i hi => ?_⟩
 ·simp only [World.setCell, Array.getElem?_modify, if_pos, h1]
  simp
 ·simp at hi
  rw [Array.getElem?_setIfInBounds]
  by_cases hij : j = i
  ·subst hij
   simp [hi]
   omega
  ·have := h3 i hi
   simp [hij, this]
theorem Row8.below {W W' : World} {B : Nat} {xs : List Int} (h : Row8 W B xs) (hb : Below W.heap.size W W') : Row8 W' B xs := by
 obtain ⟨cs, h1, h2, h3⟩ := h
 exact ⟨cs, (hb.block _ (Array.getElem?_eq_some_iff.1 h1).1).trans h1, h2, h3⟩
def lowS (s : ByteArray) : ByteArray := strOfNums ((List.range s.size).map fun (j : Nat) => lowI (bt s (j : Int)))
def chars_Low.f (a0 : ByteArray) : Option ByteArray := if a0.size < 140737488355328 then some (lowS a0) else none
end Go.Proofs.Ythcmfjpheanphaa.Pr
namespace Go.Proofs.Ythcmfjpheanphaa.Pr
open Go.RowKit Go.Maps Go.Proofs.YthcmfjpheanphaaW.PrintWords
attribute [local go_sem] Oper.semAt_some
theorem conv_bytes (s : ByteArray) (W : World) : ∃ C W', (convert 9 68 (.string s)).run Try.prog W = .ok (.slice (some ⟨W.heap.size, 0, none⟩) s.size C) W' ∧ Below W.heap.size W W' ∧ ∀ j : Nat, j < s.size → W'.cell? ⟨W.heap.size, j, none⟩ = some (.int .u8 (bt s (j : Int))) := by
 have hb0 : Below W.heap.size W (Lib.bytesWorld W 5 s) := ⟨rfl, rfl, rfl, by rw [Lib.bytesWorld_size]; omega, fun k hk => Lib.bytesWorld_at_old W 5 s k hk⟩
 refine ⟨_, _, Lib.run_convert_string_bytes (P := Try.prog) W 9 68 5 s Try.underlying9 Try.underlying68 Try.underlying5, hb0, fun j hj => ?_⟩
 have hr0 : Row8 (Lib.bytesWorld W 5 s) W.heap.size ((List.range s.size).map fun (j : Nat) => bt s (j : Int)) := by
  refine ⟨Lib.bytesCells W 5 s, Lib.bytesWorld_at_new W 5 s, by simp [Lib.bytesCells], fun j hj => ?_⟩
  simp at hj
  have : j < s.data.size := hj
  simp [Lib.bytesCells, Array.getElem?_append, this, bt, hj]
  rfl
 rw [hr0.cell j (by simpa using hj)]
 simp [hj]
theorem kindsB_kid {r : List Opn} (h : KindsB r) : KindsB (kidP r) := by
 intro o ho
 unfold kidP at ho
 obtain ⟨y, hy, rfl | rfl⟩ := mem_modify ho
 ·exact h _ hy
 ·exact h y hy
set_option pp.maxSteps 3000 in
set_option maxRecDepth 100000 in
set_option maxHeartbeats 8000000 in
theorem texts_calls (B0 g m : Nat) (vr vt : Value) (s : Bld) (x : S47) (w : World) (hB0 : B0 ≤ w.heap.size) (hxs : x.f2.size ≤ 1000000) (hn : s.row.length ≤ 999999) (hnt : s.t.length ≤ 999999) (hkb : KindsB s.row) (hb : BAt w B0 g m vr vt s) :
  Calls Try.prog 92 #[.pointer (some ⟨g, 0, none⟩), .agg #[.int .i64 x.f0, .int .u8 x.f1, .string x.f2, .int .i64 x.f3]] w fun e w' =>
   e = .returned (.tuple #[.int .i64 (textsP s x).2.1, .int .i64 (textsP s x).2.2]) ∧ StepTo B0 g m (textsP s x).1 w w' := by
 obtain ⟨f0, k, f2, f3⟩ := x
 simp only at hxs
 obtain ⟨A, c, rfl⟩ := own_slice hb.row
 have hb1 : Below w.heap.size w (w.alloc (.cells #[.int .i64 f0, .int .u8 k, .string f2, .int .i64 f3] 47)) := (Below.refl _ w).alloc (Nat.le_refl _) _
 have hx := blk_new w (.cells #[.int .i64 f0, .int .u8 k, .string f2, .int .i64 f3] 47)
 have hbx := hb.below hb1
 obtain ⟨w1, hw1⟩ : ∃ w1, w.alloc (.cells #[.int .i64 f0, .int .u8 k, .string f2, .int .i64 f3] 47) = w1 := ⟨_, rfl⟩
 rw [hw1] at hb1 hx hbx
 have hmay := fun W (hW : BAt W B0 g m (.slice A s.row.length c) vt s) => may_calls B0 g m _ vt s 46 W (by omega) (by omega) (by omega) hkb hW
 have HM := Lib.hid hmay
 have HB := Lib.hid hbx
 have HB1 := Lib.hid hb1
 have HX := Lib.hid hx
 have HKB := Lib.hid hkb
 clear hb hb1 hx hbx hmay hkb
 cases hmm : mayP s.row 46 with
 | false =>
  have hP : textsP s ⟨f0, k, f2, f3⟩ = if blackP f2 f2.size 0 < f2.size then (s, wrap64 (f3 + blackP f2 f2.size 0), 2) else (s, f3, 0) := by unfold textsP; simp only [hmm]; rfl
  have HP := Lib.hid hP
  rw [hmm] at HM
  clear hP
  have HMM := Lib.hid hmm
  clear hmm
  have HCV := Lib.hid (fun W => conv_bytes f2 W)
  go_enter Try.func92, Try.ntmps92
  go_wp2_with (go_at_call 104; refine (HM.out _ HB.out).mono ?_; rintro e w2 ⟨rfl, hb2⟩; have cx2 := blk_cell (blk_below HX.out hb2) 2; have cx3 := blk_cell (blk_below HX.out hb2) 3; simp only [List.getElem?_toArray, List.getElem?_cons_succ, List.getElem?_cons_zero] at cx2 cx3; obtain ⟨C, W3, hcv, hb3, hcs⟩ := HCV.out w2; have HCS := Lib.hid hcs; clear hcs)
  have HW3 := Lib.hid (hb2.trans (hb3.mono hb2.size))
  clear hcv cx2 cx3
  go_loopw [17] (fun v wr => ∃ j : Nat, j ≤ f2.size ∧ v = .int .i64 j ∧ Below W3.heap.size W3 wr ∧ blackP f2 f2.size 0 = blackP f2 (f2.size - j) j) (fun v _ => f2.size - (intOf v).toNat)
  case atStart => exact ⟨0, Nat.zero_le _, rfl, Below.refl _ _, rfl⟩
  case round =>
   obtain ⟨j, hj, rfl, hB, hbl⟩ := hrel
   have HBL := Lib.hid hbl
   clear hbl
   have HBB := Lib.hid (HW3.out.trans (hB.mono HW3.out.size))
   have cx3 := blk_cell (blk_below HX.out HBB.out) 3
   simp only [List.getElem?_toArray, List.getElem?_cons_succ, List.getElem?_cons_zero] at cx3
   have HEND := Lib.hid (HB1.out.trans (HBB.out.mono HB1.out.size))
   by_cases hlt : j < f2.size
   ·have hlt1 : (j : Int) < (f2.size : Int) := by omega
    have q0 := HCS.out j hlt
    replace q0 := (hB.cell (World.block_lt_of_cell? W3 _ q0)).trans q0
    have hbr := bt_range f2 j
    have hst : blackP f2 (f2.size - j) j = if whiteT (bt f2 j) = true then blackP f2 (f2.size - (j + 1)) (j + 1) else j := by
     rw [show f2.size - j = (f2.size - (j + 1)) + 1 from by omega]
     simp only [blackP]
     rw [if_pos hlt]
    have hw := fun W => white_calls (bt f2 j) hbr.1 hbr.2 W
    have HST := Lib.hid hst
    obtain ⟨b, hbw⟩ : ∃ b, whiteP (bt f2 j) = b := ⟨_, rfl⟩
    rw [hbw] at hw
    have HBW := Lib.hid (show whiteT (bt f2 j) = b from hbw)
    have HW := Lib.hid hw
    clear hst hw hbw
    generalize bt f2 j = ch at *
    cases b
    ·go_wp2_with (go_at_call 35; refine (HW.out _).mono ?_; rintro e w4 ⟨rfl, hb4⟩; have cx3' := blk_cell (blk_below (blk_below HX.out HBB.out) hb4) 3; simp only [List.getElem?_toArray, List.getElem?_cons_succ, List.getElem?_cons_zero] at cx3')
     go_ret2
     have hres : blackP f2 f2.size 0 = j := by rw [HBL.out, HST.out, HBW.out]; rfl
     refine ⟨by rw [HP.out, hres, if_pos hlt]; rfl, ?_⟩
     rw [HP.out, hres, if_pos hlt]
     have HE2 := HEND.out.trans (hb4.mono HEND.out.size)
     exact StepTo.mk' ((HB.out.below HBB.out).below hb4) (below_low HE2 hB0) (KeepK.below HE2)
    ·go_wp2_with (go_at_call 35; refine (HW.out _).mono ?_; rintro e w4 ⟨rfl, hb4⟩)
     go_roundw
     case rel => exact ⟨j + 1, by omega, by go_num, hB.trans (hb4.mono hB.size), by rw [HBL.out, HST.out, HBW.out]; rfl⟩
     case measure => simp [intOf]; omega
   ·obtain rfl : j = f2.size := by omega
    have hlt1 : ¬ (f2.size : Int) < (f2.size : Int) := by omega
    go_wp2
    go_ret2
    have hres : ¬ blackP f2 f2.size 0 < f2.size := by rw [HBL.out, Nat.sub_self]; simp [blackP]
    refine ⟨by rw [HP.out, if_neg hres]; rfl, ?_⟩
    rw [HP.out, if_neg hres]
    exact StepTo.mk' (HB.out.below HBB.out) (below_low HEND.out hB0) (KeepK.below HEND.out)
 | true =>
  have HMM := Lib.hid hmm
  rw [hmm] at HM
  clear hmm
  go_enter Try.func92, Try.ntmps92
  go_wp2_with (go_at_call 104; (with_reducible refine (HM.out _ HB.out).mono ?_); rintro e w2 ⟨rfl, hb2⟩; have cx2 := blk_cell (blk_below HX.out hb2) 2; have cx3 := blk_cell (blk_below HX.out hb2) 3; simp only [List.getElem?_toArray, List.getElem?_cons_succ, List.getElem?_cons_zero] at cx2 cx3)
  have HW2 := Lib.hid (HB1.out.trans (hb2.mono HB1.out.size))
  refine (add_calls B0 g m (.slice A s.row.length c) vt s ⟨46, f2, f3, 1⟩ w2 (Nat.le_trans hB0 HW2.out.size) (by omega) (by omega) (HB.out.below hb2)).mono ?_
  rintro e W2 ⟨rfl, vt2, hbb, hl2, hk2⟩
  replace hbb : BAt W2 B0 g m (.slice A s.row.length c) vt2 ⟨kidP s.row, s.t ++ [⟨46, f2, f3, 1⟩]⟩ := hbb
  obtain ⟨E, hE⟩ : ∃ E, (addP s ⟨46, f2, f3, 1⟩).2 = E := ⟨_, rfl⟩
  rw [hE]
  have HE := Lib.hid (show (if 2000 < s.t.length + 1 then (4 : Int) else 0) = E from hE)
  have hX2 : W2.heap[w.heap.size]? = some (.cells #[.int .i64 f0, .int .u8 k, .string f2, .int .i64 f3] 47 (0, 0)) := hk2 _ _ (blk_below HX.out hb2) rfl
  have hR : (kidP s.row).length = s.row.length := kidP_length _
  have hkb2 := kindsB_kid HKB.out
  obtain ⟨r1, hr1⟩ : ∃ r1, kidP s.row = r1 := ⟨_, rfl⟩
  rw [hr1] at hbb hR hkb2
  rw [← hR] at hbb
  have HR1 := Lib.hid hr1
  have HLR := Lib.hid hR
  have hrl : r1.length ≤ 999999 := by omega
  have HK2 := Lib.hid hbb
  have HL2 := Lib.hid ((below_low HW2.out hB0).trans hl2)
  have HE2 := Lib.hid ((KeepK.below HW2.out).trans hk2)
  have HX2 := Lib.hid hX2
  have HKB2 := Lib.hid hkb2
  have d0 := blk_cell hbb.blk 0
  have y2 := blk_cell hX2 2
  have y3 := blk_cell hX2 3
  simp only [List.getElem?_toArray, List.getElem?_cons_succ, List.getElem?_cons_zero] at d0 y2 y3
  clear hE hR hr1 hbb hX2 hkb2 hl2 hk2 hb2 cx2 cx3 HX HB1 HW2 HM
  have hs2 := fun A' (hA : A' = A) => around_calls B0 A c r1 _ _ finds_n W2 (by omega) HKB2.out HK2.out.row
  have hac := hs2 A rfl
  clear hs2
  cases hA : aroundP [110] r1 r1.length with
  | none =>
   rw [hA] at hac
   have HAC := Lib.hid hac
   clear hac
   have HO := Lib.hid (show textsP s ⟨f0, k, f2, f3⟩ = (⟨r1, s.t ++ [⟨46, f2, f3, 1⟩]⟩, f3, E) from by
    unfold textsP
    simp only [HMM.out, if_true, HR1.out, hA, HE.out])
   go_wp2_with (go_at_call 133; (with_reducible refine HAC.out.mono ?_); rintro e W2 ⟨rfl, rfl⟩; simp only [ptrO])
   go_ret2
   refine ⟨by rw [HO.out]; rfl, ?_⟩
   rw [HO.out]
   exact StepTo.mk' HK2.out HL2.out HE2.out
  | some j =>
   have hjl := aroundP_lt _ _ _ _ hA
   obtain ⟨gr, ca, hae, hao⟩ := rowO_form HK2.out.row (by show 0 < r1.length; omega)
   simp only [Value.slice.injEq] at hae
   obtain ⟨rfl, -, rfl⟩ := hae
   rw [hA] at hac
   have HAC := Lib.hid hac
   obtain ⟨W3, hW3⟩ : ∃ W3, W2.drew = W3 := ⟨_, rfl⟩
   have hK3 : BAt W3 B0 g m (.slice (some ⟨gr, 0, none⟩) r1.length c) vt2 ⟨r1, s.t ++ [⟨46, f2, f3, 1⟩]⟩ := by rw [← hW3]; exact HK2.out.below (below_drew1 (Below.refl _ _))
   have hX3 : W3.heap[w.heap.size]? = some (.cells #[.int .i64 f0, .int .u8 k, .string f2, .int .i64 f3] 47 (0, 0)) := by rw [← hW3]; exact HX2.out
   have hL3 : Below B0 w W3 := by rw [← hW3]; exact below_drew1 HL2.out
   have hE3 : KeepK w W3 := by rw [← hW3]; exact HE2.out.drew
   have q6 := rowO_cell hK3.row j 6 hjl (by omega)
   have z6 := World.ownsRow.frozenAt hK3.row (j * 7 + 6)
   simp only [cellsO, List.getElem?_cons_succ, List.getElem?_cons_zero] at q6
   have x2 := blk_cell hX3 2
   simp only [List.getElem?_toArray, List.getElem?_cons_succ, List.getElem?_cons_zero] at x2
   have hse := BAt.setO (s := ⟨r1, s.t ++ [⟨46, f2, f3, 1⟩]⟩) hK3 j 6 hjl (by omega) (textF f2.size) (.int .i64 (wrap64 ((r1.getD j zOpn).text + f2.size))) rfl
   have HO := Lib.hid (show textsP s ⟨f0, k, f2, f3⟩ = (⟨r1.modify j (textF f2.size), s.t ++ [⟨46, f2, f3, 1⟩]⟩, f3, if 60 < wrap64 ((r1.getD j zOpn).text + f2.size) then 4 else E) from by
    unfold textsP
    simp only [HMM.out, if_true, HR1.out, hA]
    have hE := HE.out
    by_cases h60 : 60 < wrap64 ((r1.getD j zOpn).text + f2.size)
    ·rw [if_pos (.inl h60), if_pos h60]
    ·rw [if_neg h60, ← hE]
     by_cases h2 : 2000 < s.t.length + 1
     ·rw [if_pos (.inr h2), if_pos h2]
     ·rw [if_neg (fun h => h.elim h60 h2), if_neg h2])
   obtain ⟨tx, htx⟩ : ∃ tx, (r1.getD j zOpn).text = tx := ⟨_, rfl⟩
   rw [htx] at q6 hse HO
   have ha1 : (⟨gr, j * 7 + 6, none⟩ : Addr).block ≠ w.heap.size := fun e => by
    obtain ⟨cs, hcs⟩ := own_typed hK3.row gr rfl
    have e' : gr = w.heap.size := e
    rw [e', hX3] at hcs
    cases hcs
   have hX4 := blk_far hX3 (p := ⟨gr, j * 7 + 6, none⟩) (Ne.symm ha1) (.int .i64 (wrap64 (tx + f2.size)))
   have hrow6 : (W3.setCell ⟨gr, j * 7 + 6, none⟩ (.int .i64 (wrap64 (tx + f2.size)))).ownsRow B0 155 7 (.slice (some ⟨gr, 0, none⟩) (r1.modify j (textF f2.size)).length c) (r1.modify j (textF f2.size)).length (flatO (r1.modify j (textF f2.size))) := by
    have := hse.1.row
    unfold RowO at this
    simp only [List.length_modify] at this ⊢
    exact this
   have q6' := rowO_cell hrow6 j 6 (by simpa using hjl) (by omega)
   have x3' := blk_cell hX4 3
   simp only [List.getElem?_toArray, List.getElem?_cons_succ, List.getElem?_cons_zero] at x3'
   have q6'' : (W3.setCell ⟨gr, j * 7 + 6, none⟩ (.int .i64 (wrap64 (tx + f2.size)))).cell? ⟨gr, j * 7 + 6, none⟩ = some (.int .i64 (wrap64 (tx + f2.size))) := by
    rw [q6']
    have : (r1.modify j (textF f2.size)).getD j zOpn = textF f2.size (r1.getD j zOpn) := by
     rw [List.getD_eq_getElem?_getD, List.getD_eq_getElem?_getD, List.getElem?_modify, List.getElem?_eq_getElem hjl]
     simp
    simp only [cellsO, List.getElem?_cons_succ, List.getElem?_cons_zero]
    rw [this]
    unfold textF
    rw [htx]
   have H1 := Lib.hid q6''
   have H2 := Lib.hid x3'
   have H3 := Lib.hid hse
   have HC := Lib.hid (And.intro q6 (And.intro z6 x2))
   have HL3 := Lib.hid hL3
   have HE3 := Lib.hid hE3
   clear hrow6 q6'' q6' x3' hse q6 z6 x2 hK3 hX3 hL3 hE3 hX4 ha1 hac hao htx
   go_wp2_with (go_at_call 133; (with_reducible refine HAC.out.mono ?_); rintro e W2 ⟨rfl, rfl⟩; simp only [ptrO])
   refine Go.Det.region_det (fun W => W = W3) 10 (by kernel_rfl) (by kernel_rfl) (by kernel_rfl) (by decide) hW3 ?_
   repeat
    apply Go.Det.seqW_cons
    focus
     intro W hS
     obtain rfl : W = W3 := hS
     obtain ⟨q6, z6, x2⟩ := HC.out
     go_wp2
     exact Go.Det.AtEnd.mk rfl
   refine Go.Det.seqW_nil ?_
   intro W hS
   obtain rfl : W = W3 := hS
   simp only [List.drop_succ_cons, List.drop_zero]
   obtain ⟨q6, z6, x2⟩ := HC.out
   have q7 := H1.out
   have x3 := H2.out
   clear hW3
   by_cases h60 : 60 < wrap64 (tx + f2.size)
   all_goals
    go_wp2
    go_ret2
    refine ⟨by rw [HO.out]; first | (rw [if_pos h60]; rfl) | (rw [if_neg (Int.not_lt.2 h60)]; rfl) | (rw [if_neg h60]; rfl), ?_⟩
    rw [HO.out]
    exact StepTo.mk' H3.out.1 (HL3.out.trans H3.out.2.1) (HE3.out.trans H3.out.2.2)
def klP (a b : Int) : Lit := .string [UInt8.ofNat a.toNat, UInt8.ofNat b.toNat]
theorem klP_inj {a b c d : Int} (a0 : 0 ≤ a) (a1 : a ≤ 255) (b0 : 0 ≤ b) (b1 : b ≤ 255) (c0 : 0 ≤ c) (c1 : c ≤ 255) (d0 : 0 ≤ d) (d1 : d ≤ 255) (h : klP a b = klP c d) : a = c ∧ b = d := by
 unfold klP at h
 simp only [Lit.string.injEq, List.cons.injEq, and_true] at h
 have e : ∀ n k : Nat, n < 256 → k < 256 → UInt8.ofNat n = UInt8.ofNat k → n = k := fun n k hn hk he => by
  have := congrArg UInt8.toNat he
  simpa [UInt8.toNat_ofNat, Nat.mod_eq_of_lt hn, Nat.mod_eq_of_lt hk] using this
 have h1 := e _ _ (by omega) (by omega) h.1
 have h2 := e _ _ (by omega) (by omega) h.2
 omega
theorem wf_u8 {a : Int} (a0 : 0 ≤ a) (a1 : a ≤ 255) : (Lit.int .u8 a).wf = true := WalkArith.wf_u8 (by omega)
set_option maxRecDepth 100000 in
theorem key_pair (a b : Int) (a0 : 0 ≤ a) (a1 : a ≤ 255) (b0 : 0 ≤ b) (b1 : b ≤ 255) : keyOf Try.prog 169 (pairV a b) = some (klP a b) := by
 have hkt : Try.prog.keyType 169 = true := by kernel_rfl
 have hc : Try.prog.cellsOf 169 = 2 := by kernel_rfl
 have hc5 : Try.prog.cellsOf 5 = 1 := by kernel_rfl
 obtain ⟨m, hm⟩ : ∃ m, Try.prog.types.size = m + 1 := ⟨Try.prog.types.size - 1, by have : 0 < Try.prog.types.size := Nat.lt_of_le_of_lt (Nat.zero_le _) row169; omega⟩
 have wa := wf_u8 a0 a1
 have wb := wf_u8 b0 b1
 unfold keyOf pairV
 simp only [Try.underlying169]
 rw [if_pos (by simp [hkt, Value.formed, Try.underlying169, hc]), hm]
 unfold Program.keyLits
 simp only [Try.underlying169, Value.cells]
 rw [if_pos ⟨by rw [hc]; rfl, by kernel_rfl⟩]
 simp [hc5, Program.keyLits, Try.underlying5, wa, wb]
 have hb : ∀ c : Int, 0 ≤ c → c ≤ 255 → (Lit.int IntKind.u8 c).keyBytes = [UInt8.ofNat c.toNat] := fun c h0 h1 => by
  have e : (c % 256).toNat % 256 = c.toNat := by omega
  simp [Lit.keyBytes, bytesBE, bytesLE, IntKind.bits, e]
 simp only [keyBytes, List.flatMap_cons, List.flatMap_nil, hb a a0 a1, hb b b0 b1]
 rfl
abbrev OwnM (w : World) (m n : Nat) (D : DataW Unit) : Prop := w.ownsMap (H := Unit) Try.prog 169 (plainElem Try.prog 3) m n D
def MapF (D : DataW Unit) (f : Int → Int → Bool) : Prop := IsMap D ∧ ∀ a b : Int, 0 ≤ a → a ≤ 255 → 0 ≤ b → b ≤ 255 → D.atKey (klP a b) (.lit (.int .i64 0)) = .lit (.int .i64 (if f a b then 1 else 0))
theorem isMap_put {D : DataW Unit} (h : IsMap D) (k : Lit) (d : DataW Unit) : IsMap (D.put k d) := by
 obtain ⟨es, rfl⟩ := h
 exact ⟨_, rfl⟩
theorem MapF.put {D : DataW Unit} {f f' : Int → Int → Bool} (h : MapF D f) (x y : Int) (x0 : 0 ≤ x) (x1 : x ≤ 255) (y0 : 0 ≤ y) (y1 : y ≤ 255) (hf : ∀ a b, f' a b = (f a b || (a == x && b == y))) : MapF (D.put (klP x y) (.lit (.int .i64 1))) f' := by
 refine ⟨isMap_put h.1 _ _, fun a b a0 a1 b0 b1 => ?_⟩
 by_cases e : a = x ∧ b = y
 ·obtain ⟨rfl, rfl⟩ := e
  rw [atKey_put_same h.1 (by trivial), hf]
  simp
 ·rw [atKey_put_other (fun hk => e (klP_inj a0 a1 b0 b1 x0 x1 y0 y1 hk)), h.2 a b a0 a1 b0 b1, hf]
  have : (a == x && b == y) = false := by
   rw [Bool.and_eq_false_iff]
   by_cases ea : a = x
   ·right; exact beq_eq_false_iff_ne.2 fun eb => e ⟨ea, eb⟩
   ·left; exact beq_eq_false_iff_ne.2 ea
  rw [this, Bool.or_false]
def inK (s : ByteArray) (n : Nat) (c : Int) : Bool := (List.range n).any fun j => c == bt s (j : Int)
theorem inK_succ (s : ByteArray) (n : Nat) (c : Int) : inK s (n + 1) c = (inK s n c || c == bt s (n : Int)) := by
 unfold inK
 rw [List.range_succ, List.any_append]
 simp
def putF (i o : ByteArray) (f : Int → Int → Bool) : Int → Int → Bool := fun a b => f a b || (inK i i.size a && inK o o.size b)
def PutTo (m n : Nat) (f : Int → Int → Bool) (w w' : World) : Prop := ∃ D, OwnM w' m n D ∧ MapF D f ∧ w.grownBy w' (some m)
theorem grown_trans {a b c : World} {row : Option Nat} (h : a.grownBy b row) (k : b.grownBy c row) : a.grownBy c row :=
 ⟨k.os.trans h.os, k.tape.trans h.tape, k.output.trans h.output, Nat.le_trans h.size k.size, fun i hi hne => (k.block i (Nat.lt_of_lt_of_le hi h.size) hne).trans (h.block i hi hne)⟩
theorem grown_below {a b : World} (h : Below a.heap.size a b) (row : Option Nat) : a.grownBy b row := grown_of_below h row
theorem grown_cell {a b : World} {m : Nat} (h : a.grownBy b (some m)) {p : Addr} {v : Value} (hc : a.cell? p = some v) (hp : p.block ≠ m) : b.cell? p = some v := by
 have hlt := World.block_lt_of_cell? a p hc
 have := h.block p.block hlt (fun e => hp (Option.some.inj e))
 obtain ⟨pb, po, ps⟩ := p
 simp only [World.cell?] at hc ⊢
 simp only at this
 rw [this]
 exact hc
set_option pp.maxSteps 3000 in
set_option maxRecDepth 100000 in
set_option maxHeartbeats 8000000 in
theorem put_calls (i o : ByteArray) (hi : i.size ≤ 100) (ho : o.size ≤ 100) (O m n : Nat) (D : DataW Unit) (f : Int → Int → Bool) (w : World) (hO : w.heap[O]? = some (.cells #[.map (some m)] 102 (0, 0))) (hm : OwnM w m n D) (hn : n ≤ 1000000) (hf : MapF D f) :
  Calls Try.prog 162 #[.string i, .string o, .pointer (some ⟨O, 0, none⟩)] w fun e w' => e = .returned (.tuple #[]) ∧ PutTo m (n + 10100) (putF i o f) w w' := by
 have hne : O ≠ m := fun e => by
  obtain ⟨es, clock, hb, _⟩ := hm
  subst e
  rw [hb] at hO
  cases hO
 obtain ⟨C, W1, hcv, hb1, hcs⟩ := conv_bytes i w
 have hwm : w.heap.size ≠ m := fun e => by have := hm.lt; omega
 have HM := Lib.hid hm
 have HO := Lib.hid hO
 have HF := Lib.hid hf
 have HCS := Lib.hid hcs
 have HB1 := Lib.hid hb1
 have HNE := Lib.hid hne
 have HWM := Lib.hid hwm
 have HCO := Lib.hid (fun W => conv_bytes o W)
 clear hm hO hf hcs hb1 hne hwm
 go_enter Try.func162, Try.ntmps162
 go_wp2
 clear hcv
 go_loopw [12] (fun v wr => ∃ J : Nat, J ≤ i.size ∧ v = .int .i64 J ∧ W1.grownBy wr (some m) ∧ PutTo m (n + J * 101) (fun a b => f a b || (inK i J a && inK o o.size b)) w wr) (fun v _ => i.size - (intOf v).toNat)
 case atStart =>
  refine ⟨0, Nat.zero_le _, rfl, grown_below (Below.refl _ _) _, D, HM.out.kept (grown_below HB1.out none) (by simp), ?_, grown_below HB1.out _⟩
  simpa [inK] using HF.out
 case round =>
  obtain ⟨J, hJ, rfl, hg1, D1, hm1, hf1, hgw⟩ := hrel
  by_cases hlt : J < i.size
  ·have hlt1 : (J : Int) < (i.size : Int) := by omega
   have q0 := grown_cell hg1 (HCS.out J hlt) HWM.out
   have hbr := bt_range i J
   obtain ⟨x, hx⟩ : ∃ x, bt i (J : Int) = x := ⟨_, rfl⟩
   rw [hx] at q0 hbr
   have HXX := Lib.hid hx
   obtain ⟨C2, W2, hcv2, hb2, hcs2⟩ := HCO.out wr
   have hm2 := hm1.kept (grown_below hb2 none) (by simp)
   have hwm2 : wr.heap.size ≠ m := fun e => by have := hm1.lt; omega
   have H1 := Lib.hid hg1
   have H2 := Lib.hid hm2
   have H3 := Lib.hid hf1
   have H4 := Lib.hid hgw
   have H5 := Lib.hid hcs2
   have H6 := Lib.hid hb2
   have H7 := Lib.hid hwm2
   clear hx hg1 hm1 hf1 hgw hcs2 hb2 hm2 hwm2
   go_wp2
   clear hcv2 q0
   obtain ⟨wo, rfl⟩ : ∃ wo : World, wo = wr := ⟨_, rfl⟩
   go_loopw [19] (fun v wr => ∃ K : Nat, K ≤ o.size ∧ v = .int .i64 K ∧ W2.grownBy wr (some m) ∧ PutTo m (n + J * 101 + K) (fun a b => (f a b || (inK i J a && inK o o.size b)) || (a == x && inK o K b)) w wr) (fun v _ => o.size - (intOf v).toNat)
   case atStart =>
    refine ⟨0, Nat.zero_le _, rfl, grown_below (Below.refl _ _) _, D1, H2.out, ?_, grown_trans H4.out (grown_below H6.out _)⟩
    simpa [inK] using H3.out
   case round =>
    obtain ⟨K, hK, rfl, hg3, D3, hm3, hf3, hgw3⟩ := hrel
    by_cases hkt : K < o.size
    ·have hkt1 : (K : Int) < (o.size : Int) := by omega
     have p0 := grown_cell hg3 (H5.out K hkt) H7.out
     have hbr2 := bt_range o K
     obtain ⟨y, hy⟩ : ∃ y, bt o (K : Int) = y := ⟨_, rfl⟩
     rw [hy] at p0 hbr2
     have HYY := Lib.hid hy
     have hoc := blk_cell (blk_grown HO.out hgw3 (fun e => HNE.out (Option.some.inj e))) 0
     simp only [List.getElem?_toArray, List.getElem?_cons_zero] at hoc
     have hm9 : OwnM wr m (n + J * 101 + K) D3 := hm3
     have G1 := Lib.hid hg3
     have G2 := Lib.hid hm9
     have G3 := Lib.hid hf3
     have G4 := Lib.hid hgw3
     clear hy hg3 hm3 hf3 hgw3 hm9
     have hkey := key_pair x y hbr.1 hbr.2 hbr2.1 hbr2.2
     go_wp2_with (at_mapUpdate; refine wpList_mapUpdate_own _ rfl _ _ _ 102 rfl 169 3 law169 Try.underlying102 _ m (n + J * 101 + K) _ rfl G2.out (by unfold maxLen; omega) _ _ _ rfl rfl hkey _ [] (plainElem_int (a := 1) Try.underlying3 (by decide)) ?_; intro w5 hown5 hgrow5)
     go_roundw
     case rel =>
      refine ⟨K + 1, by omega, by go_num, grown_trans G1.out hgrow5, _, hown5, ?_, grown_trans G4.out hgrow5⟩
      refine MapF.put G3.out x y hbr.1 hbr.2 hbr2.1 hbr2.2 fun a b => ?_
      rw [inK_succ, HYY.out]
      cases (f a b || inK i J a && inK o o.size b) <;> cases (a == x) <;> simp
     case measure => simp [intOf]; omega
    ·obtain rfl : K = o.size := by omega
     have hkt1 : ¬ (o.size : Int) < (o.size : Int) := by omega
     have G1 := Lib.hid hg3
     have G2 := Lib.hid hm3
     have G3 := Lib.hid hf3
     have G4 := Lib.hid hgw3
     clear hg3 hm3 hf3 hgw3
     go_wp2
     go_roundw
     case rel =>
      refine ⟨J + 1, by omega, by go_num, grown_trans (grown_trans H1.out (grown_below H6.out _)) G1.out, _, G2.out.mono (by omega), ?_, G4.out⟩
      refine ⟨G3.out.1, fun a b a0 a1 b0 b1 => ?_⟩
      have hh := G3.out.2 a b a0 a1 b0 b1
      dsimp only at hh ⊢
      have hbq : (f a b || inK i J a && inK o o.size b || a == x && inK o o.size b) = (f a b || inK i (J + 1) a && inK o o.size b) := by
       rw [inK_succ, HXX.out]
       cases f a b <;> cases inK i J a <;> cases (a == x) <;> cases inK o o.size b <;> rfl
      rw [hh]
      simp only [hbq]
     case measure => simp [intOf]; omega
  ·obtain rfl : J = i.size := by omega
   have hlt1 : ¬ (i.size : Int) < (i.size : Int) := by omega
   have H1 := Lib.hid hg1
   have H2 := Lib.hid hm1
   have H3 := Lib.hid hf1
   have H4 := Lib.hid hgw
   clear hg1 hm1 hf1 hgw
   go_wp2
   refine bodyPost_end (results_none rfl _ _ _) rfl ?_
   exact ⟨rfl, D1, H2.out.mono (by omega), H3.out, H4.out⟩
theorem inK_fin (s : ByteArray) (ks : List Int) (h : ∀ c : Fin 256, inK s s.size (c.val : Int) = ks.contains (c.val : Int)) (c : Int) (c0 : 0 ≤ c) (c1 : c ≤ 255) : inK s s.size c = ks.contains c := by
 have := h ⟨c.toNat, by omega⟩
 simpa [Int.toNat_of_nonneg c0] using this
theorem in1 : ∀ c : Fin 256, inK ⟨#[0]⟩ 1 (c.val : Int) = ([0] : List Int).contains (c.val : Int) := by decide +kernel
theorem in2 : ∀ c : Fin 256, inK ⟨#[49, 50, 51, 112, 108, 116, 107]⟩ 7 (c.val : Int) = ([49, 50, 51, 112, 108, 116, 107] : List Int).contains (c.val : Int) := by decide +kernel
theorem in3 : ∀ c : Fin 256, inK ⟨#[49, 50, 51, 112, 99, 110, 101, 115, 105]⟩ 9 (c.val : Int) = ([49, 50, 51, 112, 99, 110, 101, 115, 105] : List Int).contains (c.val : Int) := by decide +kernel
theorem in4 : ∀ c : Fin 256, inK ⟨#[46, 101, 115, 110]⟩ 4 (c.val : Int) = ([46, 101, 115, 110] : List Int).contains (c.val : Int) := by decide +kernel
theorem in5 : ∀ c : Fin 256, inK ⟨#[105]⟩ 1 (c.val : Int) = ([105] : List Int).contains (c.val : Int) := by decide +kernel
theorem in6 : ∀ c : Fin 256, inK ⟨#[108]⟩ 1 (c.val : Int) = ([108] : List Int).contains (c.val : Int) := by decide +kernel
theorem in7 : ∀ c : Fin 256, inK ⟨#[116]⟩ 1 (c.val : Int) = ([116] : List Int).contains (c.val : Int) := by decide +kernel
theorem in8 : ∀ c : Fin 256, inK ⟨#[114]⟩ 1 (c.val : Int) = ([114] : List Int).contains (c.val : Int) := by decide +kernel
theorem in9 : ∀ c : Fin 256, inK ⟨#[99]⟩ 1 (c.val : Int) = ([99] : List Int).contains (c.val : Int) := by decide +kernel
def fAll : Int → Int → Bool :=
 putF ⟨#[114]⟩ ⟨#[99]⟩ (putF ⟨#[116]⟩ ⟨#[114]⟩ (putF ⟨#[108]⟩ ⟨#[105]⟩ (putF ⟨#[105]⟩ ⟨#[108]⟩ (putF ⟨#[49, 50, 51, 112, 99, 110, 101, 115, 105]⟩ ⟨#[46, 101, 115, 110]⟩ (putF ⟨#[0]⟩ ⟨#[49, 50, 51, 112, 108, 116, 107]⟩ fun _ _ => false)))))
theorem fAll_ok (a b : Int) (a0 : 0 ≤ a) (a1 : a ≤ 255) (b0 : 0 ≤ b) (b1 : b ≤ 255) : fAll a b = okP a b := by
 unfold fAll putF okP
 rw [inK_fin _ [0] in1 a a0 a1, inK_fin _ _ in2 b b0 b1, inK_fin _ _ in3 a a0 a1, inK_fin _ _ in4 b b0 b1, inK_fin _ [105] in5 a a0 a1, inK_fin _ [108] in6 b b0 b1, inK_fin _ [108] in6 a a0 a1, inK_fin _ [105] in5 b b0 b1,
  inK_fin _ [116] in7 a a0 a1, inK_fin _ [114] in8 b b0 b1, inK_fin _ [114] in8 a a0 a1, inK_fin _ [99] in9 b b0 b1]
 have e : ∀ x c : Int, ([x] : List Int).contains c = (c == x) := fun x c => by simp; rfl
 simp only [e, Bool.false_or]
theorem mapIs_of {W : World} {m n : Nat} {D : DataW Unit} (h : OwnM W m n D) (hf : MapF D fAll) : MapIs W m :=
 ⟨n, D, h, fun a b a0 a1 b0 b1 => ⟨klP a b, key_pair a b a0 a1 b0 b1, by rw [hf.2 a b a0 a1 b0 b1, fAll_ok a b a0 a1 b0 b1]; rfl⟩⟩
set_option pp.maxSteps 3000 in
set_option maxRecDepth 100000 in
set_option maxHeartbeats 8000000 in
theorem pairs_calls (w : World) : Calls Try.prog 131 #[] w fun e w' => e = .returned (.map (some w.heap.size)) ∧ MapIs w' w.heap.size ∧ Below w.heap.size w w' := by
 have hmm := @run_makeMap Try.prog
 have hm0 : OwnM (w.alloc (.map #[] 0)) w.heap.size 0 (.map []) := World.ownsMap_made _ _ _ _
 have hm1 := hm0.alloc (.cells #[.map (some w.heap.size)] 102)
 have hO1 : ((w.alloc (.map #[] 0)).alloc (.cells #[.map (some w.heap.size)] 102)).heap[w.heap.size + 1]? = some (.cells #[.map (some w.heap.size)] 102 (0, 0)) := by
  have := blk_new (w.alloc (.map #[] 0)) (.cells #[.map (some w.heap.size)] 102)
  simpa using this
 have hb1 : Below w.heap.size w ((w.alloc (.map #[] 0)).alloc (.cells #[.map (some w.heap.size)] 102)) := ((Below.refl _ _).alloc (Nat.le_refl _) _).alloc (by simp) _
 have hf0 : MapF (.map [] : DataW Unit) fun _ _ => false := ⟨isMap_empty, fun a b _ _ _ _ => rfl⟩
 have HM := Lib.hid hm1
 have HO := Lib.hid hO1
 have HB := Lib.hid hb1
 clear hm0 hm1 hO1 hb1
 go_enter Try.func131, Try.ntmps131
 go_wp2_with fail
 have hsz : w.heap.size ≤ w.heap.size := Nat.le_refl _
 refine (put_calls ⟨#[0]⟩ ⟨#[49, 50, 51, 112, 108, 116, 107]⟩ (by decide) (by decide) (w.heap.size + 1) w.heap.size 0 _ _ _ HO.out HM.out (by omega) hf0).mono ?_
 rintro e w1 ⟨rfl, D1, hm1, hf1, hg1⟩
 clear HM hmm
 have HO1 := Lib.hid (blk_grown HO.out hg1 (by simp))
 have c1 := blk_cell HO1.out 0
 simp only [List.getElem?_toArray, List.getElem?_cons_zero] at c1
 have HB1 := Lib.hid (pw_below_grown HB.out _ HB.out.size hg1 (by intro k hk; cases hk; exact Nat.le_refl _))
 have HM1 := Lib.hid hm1
 have HF1 := Lib.hid hf1
 clear hm1 hf1 hg1 hf0
 go_wp2_with fail
 refine (put_calls ⟨#[49, 50, 51, 112, 99, 110, 101, 115, 105]⟩ ⟨#[46, 101, 115, 110]⟩ (by decide) (by decide) (w.heap.size + 1) w.heap.size 10100 _ _ _ HO1.out HM1.out (by omega) HF1.out).mono ?_
 rintro e w2 ⟨rfl, D2, hm2, hf2, hg2⟩
 have HO2 := Lib.hid (blk_grown HO1.out hg2 (by simp))
 clear c1
 have c2 := blk_cell HO2.out 0
 simp only [List.getElem?_toArray, List.getElem?_cons_zero] at c2
 have HB2 := Lib.hid (pw_below_grown HB1.out _ HB1.out.size hg2 (by intro k hk; cases hk; exact Nat.le_refl _))
 have HM2 := Lib.hid hm2
 have HF2 := Lib.hid hf2
 clear hm2 hf2 hg2
 go_wp2_with fail
 refine (put_calls ⟨#[105]⟩ ⟨#[108]⟩ (by decide) (by decide) (w.heap.size + 1) w.heap.size 20200 _ _ _ HO2.out HM2.out (by omega) HF2.out).mono ?_
 rintro e w3 ⟨rfl, D3, hm3, hf3, hg3⟩
 have HO3 := Lib.hid (blk_grown HO2.out hg3 (by simp))
 clear c2
 have c3 := blk_cell HO3.out 0
 simp only [List.getElem?_toArray, List.getElem?_cons_zero] at c3
 have HB3 := Lib.hid (pw_below_grown HB2.out _ HB2.out.size hg3 (by intro k hk; cases hk; exact Nat.le_refl _))
 have HM3 := Lib.hid hm3
 have HF3 := Lib.hid hf3
 clear hm3 hf3 hg3
 go_wp2_with fail
 refine (put_calls ⟨#[108]⟩ ⟨#[105]⟩ (by decide) (by decide) (w.heap.size + 1) w.heap.size 30300 _ _ _ HO3.out HM3.out (by omega) HF3.out).mono ?_
 rintro e w4 ⟨rfl, D4, hm4, hf4, hg4⟩
 have HO4 := Lib.hid (blk_grown HO3.out hg4 (by simp))
 clear c3
 have c4 := blk_cell HO4.out 0
 simp only [List.getElem?_toArray, List.getElem?_cons_zero] at c4
 have HB4 := Lib.hid (pw_below_grown HB3.out _ HB3.out.size hg4 (by intro k hk; cases hk; exact Nat.le_refl _))
 have HM4 := Lib.hid hm4
 have HF4 := Lib.hid hf4
 clear hm4 hf4 hg4
 go_wp2_with fail
 refine (put_calls ⟨#[116]⟩ ⟨#[114]⟩ (by decide) (by decide) (w.heap.size + 1) w.heap.size 40400 _ _ _ HO4.out HM4.out (by omega) HF4.out).mono ?_
 rintro e w5 ⟨rfl, D5, hm5, hf5, hg5⟩
 have HO5 := Lib.hid (blk_grown HO4.out hg5 (by simp))
 clear c4
 have c5 := blk_cell HO5.out 0
 simp only [List.getElem?_toArray, List.getElem?_cons_zero] at c5
 have HB5 := Lib.hid (pw_below_grown HB4.out _ HB4.out.size hg5 (by intro k hk; cases hk; exact Nat.le_refl _))
 have HM5 := Lib.hid hm5
 have HF5 := Lib.hid hf5
 clear hm5 hf5 hg5
 go_wp2_with fail
 refine (put_calls ⟨#[114]⟩ ⟨#[99]⟩ (by decide) (by decide) (w.heap.size + 1) w.heap.size 50500 _ _ _ HO5.out HM5.out (by omega) HF5.out).mono ?_
 rintro e w6 ⟨rfl, D6, hm6, hf6, hg6⟩
 have HO6 := Lib.hid (blk_grown HO5.out hg6 (by simp))
 clear c5
 have c6 := blk_cell HO6.out 0
 simp only [List.getElem?_toArray, List.getElem?_cons_zero] at c6
 have HB6 := Lib.hid (pw_below_grown HB5.out _ HB5.out.size hg6 (by intro k hk; cases hk; exact Nat.le_refl _))
 have HM6 := Lib.hid hm6
 have HF6 := Lib.hid hf6
 clear hm6 hf6 hg6
 go_wp2
 go_ret
 exact ⟨rfl, mapIs_of HM6.out HF6.out, HB6.out⟩
set_option maxRecDepth 100000 in
set_option maxHeartbeats 2000000 in
theorem begin_calls (w : World) : Calls Try.prog 91 #[] w fun e w' => ∃ g m, e = .returned (.pointer (some ⟨g, 0, none⟩)) ∧ BAt w' w.heap.size g m (.slice none 0 0) (.slice none 0 0) bld0 ∧ Below w.heap.size w w' := by
 have key : Calls Try.prog 91 #[] w fun e w' => ∃ w1, MapIs w1 w.heap.size ∧ Below w.heap.size w w1 ∧ e = .returned (.pointer (some ⟨w1.heap.size, 0, none⟩)) ∧ w' = w1.alloc (.cells #[.slice none 0 0, .slice none 0 0, .map (some w.heap.size)] 104) := by
  have HP : ∀ (P : Ending → World → Prop), (∀ e w', (e = .returned (.map (some w.heap.size)) ∧ MapIs w' w.heap.size ∧ Below w.heap.size w w') → P e w') → Calls Try.prog 131 #[] w P := fun P hP => (pairs_calls w).mono hP
  go_enter Try.func91, Try.ntmps91
  go_wp2_with fail
  refine (pairs_calls w).mono ?_
  rintro e w1 ⟨rfl, hm, hb⟩
  have HM := Lib.hid hm
  have HB := Lib.hid hb
  clear hm hb
  go_wp2
  go_ret
  exact ⟨w1, HM.out, HB.out, rfl, rfl⟩
 refine key.mono ?_
 rintro e w' ⟨w1, hm, hb, rfl, rfl⟩
 refine ⟨_, _, rfl, ⟨hb.size, blk_new w1 _, own_nil _ _ _ _, own_nil _ _ _ _, map_move hm fun o ho => blk_alloc ho _⟩, hb.alloc hb.size _⟩
end Go.Proofs.Ythcmfjpheanphaa.Pr
namespace Go.Proofs.Ythcmfjpheanphaa.Pr
open Go.RowKit Go.Proofs.YthcmfjpheanphaaW.PrintWords Go.Proofs.YthcmfjpheanphaaW.PrintLast Go.Proofs.YthcmfjpheanphaaW.PrintMore
attribute [local go_sem] max2_int min2_int max_two min_two max_three min_three max_four min_four
theorem eqA47 (d : Nat) (w : World) (x0 y0 : Int) (x1 y1 : Int) (x2 y2 : ByteArray) (x3 y3 : Int) :
  (Op.equalIn (d + 2) 47 (.agg #[.int .i64 x0, .int .u8 x1, .string x2, .int .i64 x3]) (.agg #[.int .i64 y0, .int .u8 y1, .string y2, .int .i64 y3])).run Try.prog w = .ok (x0 == y0 && (x1 == y1 && (x2.toList == y2.toList && (x3 == y3)))) w := by
 refine eqA_of Try.underlying47 (by kernel_rfl) ?_
 refine eqf_cons (by rfl) (by go_simp; rfl) (by go_simp; rfl) (by go_simp) ?_
 refine eqf_cons (by rfl) (by go_simp; rfl) (by go_simp; rfl) (by go_simp) ?_
 refine eqf_cons (by rfl) (by go_simp; rfl) (by go_simp; rfl) (by go_simp) ?_
 exact eqf_last (by rfl) (by go_simp; rfl) (by go_simp; rfl) (by go_simp)
end Go.Proofs.Ythcmfjpheanphaa.Pr
namespace Go.Proofs.Ythcmfjpheanphaa.Pr
open Go.RowKit Go.Proofs.YthcmfjpheanphaaW.PrintWords
def plainTo (t : ByteArray) : Nat → Nat → Nat
 | 0, q => q
 | d + 1, q => if q < t.size ∧ plainP (bt t (q : Int)) = true then plainTo t d (q + 1) else q
theorem plainTo_stop (t : ByteArray) : ∀ d q, ¬ (q < t.size ∧ plainP (bt t (q : Int)) = true) → plainTo t d q = q
 | 0, _, _ => rfl
 | d + 1, q, h => by simp only [plainTo]; rw [if_neg h]
theorem plainTo_size (t : ByteArray) : ∀ d q, q ≤ t.size → plainTo t d q ≤ t.size
 | 0, q, h => h
 | d + 1, q, h => by
  simp only [plainTo]
  split
  ·rename_i hc; exact plainTo_size t d (q + 1) (by omega)
  ·exact h
def nextP (t : ByteArray) (at_ : Int) : Spot :=
 if bt t 0 = 123 then openP t at_
 else if bt t 0 = 125 then ⟨⟨3, 0, ⟨#[]⟩, at_⟩, 1, 0⟩
 else if plainTo t t.size 0 = 0 then ⟨⟨0, 0, ⟨#[]⟩, 0⟩, 0, 3⟩
 else ⟨⟨1, 0, t.extract 0 (plainTo t t.size 0), at_⟩, ((plainTo t t.size 0 : Nat) : Int), 0⟩
set_option pp.maxSteps 3000 in
set_option maxRecDepth 100000 in
set_option maxHeartbeats 4000000 in
theorem next_calls (t : ByteArray) (at_ : Int) (h1 : 1 ≤ t.size) (ht : t.size ≤ 1000000) (w : World) :
  Calls Try.prog 130 #[.string t, .int .i64 at_] w fun e w' => e = .returned (encSpot (nextP t at_)) ∧ Below w.heap.size w w' := by
 have hblk : ∀ W, Below (w.alloc (.cells #[.int .i64 0, .int .u8 0, .string ⟨#[]⟩, .int .i64 0, .int .i64 0, .int .i64 0] 87)).heap.size (w.alloc (.cells #[.int .i64 0, .int .u8 0, .string ⟨#[]⟩, .int .i64 0, .int .i64 0, .int .i64 0] 87)) W → W.heap[w.heap.size]? = some (.cells #[.int .i64 0, .int .u8 0, .string ⟨#[]⟩, .int .i64 0, .int .i64 0, .int .i64 0] 87 (0, 0)) := fun W hW =>
  (hW.block w.heap.size (by simp)).trans (blk_new w (.cells #[.int .i64 0, .int .u8 0, .string ⟨#[]⟩, .int .i64 0, .int .i64 0, .int .i64 0] 87))
 have hB0 : Below w.heap.size w (w.alloc (.cells #[.int .i64 0, .int .u8 0, .string ⟨#[]⟩, .int .i64 0, .int .i64 0, .int .i64 0] 87)) := (Below.refl _ w).alloc (Nat.le_refl _) _
 have HK := Lib.hid hblk
 clear hblk
 have hg0 : ((t[0].toNat : Nat) : Int) = bt t 0 := bt_at t 0 (by simp; omega)
 have hop := fun w => opening_calls t at_ h1 ht w
 obtain ⟨r, hr0⟩ : ∃ r, nextP t at_ = r := ⟨_, rfl⟩
 rw [hr0]
 unfold nextP at hr0
 by_cases h123 : bt t 0 = 123
 ·rw [if_pos h123] at hr0
  have hg1 : ((t[0].toNat : Nat) : Int) = 123 := hg0.trans h123
  have HO := Lib.hid hop
  clear hg0 h123 hop
  rw [hr0] at HO
  clear hr0
  go_enter Try.func130, Try.ntmps130
  go_wp2_with (first | (go_at_call 160; refine (HO.out _).mono ?_; rintro e w' ⟨rfl, hb⟩; unfold encSpot) | (refine wpList_store_row rfl 87 (.tmp 4) (.tmp 12) rfl w.heap.size _ rfl rfl 87 _ (HK.out _ hb) ?h1 ?h2 ?h3 ?h4))
  case h1 => kernel_rfl
  case h2 => rfl
  case h3 => simp [Value.oneCell']
  case h4 =>
   go_wp2
   refine bodyPost_ret (results_cell_row rfl _ _ w.heap.size 87 _ (0, 0) _ rfl (setRow_heap _ _ _ _ _ _ (HK.out _ hb)) Try.underlying87 rfl (by kernel_rfl)) rfl ⟨rfl, ?_⟩
   exact Go.Det.below_setRow (hB0.trans (hb.mono hB0.size)) (by omega) _
 ·rw [if_neg h123] at hr0
  clear hop
  by_cases h125 : bt t 0 = 125
  ·rw [if_pos h125] at hr0
   subst hr0
   have hg1 : ((t[0].toNat : Nat) : Int) = 125 := hg0.trans h125
   clear hg0 h123 h125
   go_enter Try.func130, Try.ntmps130
   go_wp2_with (refine wpList_store_row rfl 87 (.tmp 4) (.tmp 19) rfl w.heap.size _ rfl rfl 87 _ (HK.out _ (Below.refl _ _)) ?h1 ?h2 ?h3 ?h4)
   case h1 => kernel_rfl
   case h2 => rfl
   case h3 => simp [Value.oneCell']
   case h4 =>
    go_wp2
    refine bodyPost_ret (results_cell_row rfl _ _ w.heap.size 87 _ (0, 0) _ rfl (setRow_heap _ _ _ _ _ _ (HK.out _ (Below.refl _ _))) Try.underlying87 rfl (by kernel_rfl)) rfl ⟨rfl, ?_⟩
    exact Go.Det.below_setRow hB0 (by omega) _
  ·rw [if_neg h125] at hr0
   have HRs := Lib.hid hr0
   clear hr0
   have hb1 : (bt t 0 == 123) = false := beq_eq_false_iff_ne.2 h123
   have hb2 : (bt t 0 == 125) = false := beq_eq_false_iff_ne.2 h125
   generalize bt t 0 = y0 at *
   clear h123 h125
   go_enter Try.func130, Try.ntmps130
   go_wp2
   go_loopw [5] (fun v wr => ∃ (k d : Nat), k ≤ t.size ∧ v = .int .i64 k ∧ Hid (t.size ≤ d + k ∧ plainTo t t.size 0 = plainTo t d k) ∧ Below (w.alloc (.cells #[.int .i64 0, .int .u8 0, .string ⟨#[]⟩, .int .i64 0, .int .i64 0, .int .i64 0] 87)).heap.size (w.alloc (.cells #[.int .i64 0, .int .u8 0, .string ⟨#[]⟩, .int .i64 0, .int .i64 0, .int .i64 0] 87)) wr) (fun v _ => t.size - (intOf v).toNat)
   case atStart => exact ⟨0, t.size, by omega, rfl, Lib.hid ⟨by omega, rfl⟩, Below.refl _ _⟩
   case round =>
    obtain ⟨k, d, hk, rfl, H, hB⟩ := hrel
    have Hstop := Lib.hid (plainTo_stop t d k)
    by_cases hlt : k < t.size
    ·have hl2 : (k : Int) < (t.size : Int) := by omega
     obtain ⟨d, rfl⟩ : ∃ m, d = m + 1 := ⟨d - 1, by have := H.out.1; omega⟩
     have hr := bt_range t k
     have hgk : ((t[k].toNat : Nat) : Int) = bt t k := bt_at t k (by simpa using hlt)
     have hp := fun W => plain_calls (bt t k) hr.1 hr.2 W
     have Hstep : Hid (plainP (bt t (k : Int)) = true → plainTo t (d + 1) k = plainTo t d (k + 1)) := Lib.hid (fun h => by simp only [plainTo]; rw [if_pos ⟨hlt, h⟩])
     generalize bt t (k : Int) = y at *
     cases hpy : plainP y with
     | true =>
      rw [hpy] at hp
      have HP := Lib.hid hp
      have HN : Hid (t.size ≤ d + (k + 1) ∧ plainTo t t.size 0 = plainTo t d (k + 1)) := Lib.hid ⟨by have := H.out.1; omega, H.out.2.trans (Hstep.out hpy)⟩
      clear hp hpy Hstep Hstop H
      go_wp2_with (go_at_call 161; refine (HP.out _).mono ?_; rintro e w' ⟨rfl, hb⟩)
      go_roundw
      case rel => exact ⟨k + 1, d, by omega, by go_num, HN, hB.trans (hb.mono hB.size)⟩
      case measure => simp [intOf]; omega
     | false =>
      rw [hpy] at hp
      have HP := Lib.hid hp
      have HT : Hid (plainTo t t.size 0 = k) := Lib.hid (H.out.2.trans (Hstop.out (fun h => by rw [hpy] at h; exact absurd h.2 (by simp))))
      clear hp hpy Hstep Hstop H
      by_cases hk0 : k = 0
      ·subst hk0
       obtain rfl : y = y0 := hgk.symm.trans hg0
       simp only [Int.natCast_zero] at *
       go_wp2_with (first | (go_at_call 161; refine (HP.out _).mono ?_; rintro e w' ⟨rfl, hb⟩; have hb2 := hB.trans (hb.mono hB.size)) | (refine wpList_store_row rfl 87 (.tmp 4) (.tmp 34) rfl w.heap.size _ rfl rfl 87 _ (HK.out _ hb2) ?h1 ?h2 ?h3 ?h4))
       case h1 => kernel_rfl
       case h2 => rfl
       case h3 => simp [Value.oneCell']
       case h4 =>
        go_wp2
        refine bodyPost_ret (results_cell_row rfl _ _ w.heap.size 87 _ (0, 0) _ rfl (setRow_heap _ _ _ _ _ _ (HK.out _ hb2)) Try.underlying87 rfl (by kernel_rfl)) rfl ⟨?_, ?_⟩
        ·rw [← HRs.out, if_pos HT.out]; rfl
        ·exact Go.Det.below_setRow (hB0.trans (hb2.mono hB0.size)) (by omega) _
      ·have hk1 : ¬ (k : Int) = 0 := by omega
       have hk2 : ((k : Int) == 0) = false := beq_eq_false_iff_ne.2 hk1
       have hsl := fun W => Go.Det.sl_strh (P := Try.prog) Try.underlying9 t k (by omega) W
       clear hk1
       go_wp2_with (first | (go_at_call 161; refine (HP.out _).mono ?_; rintro e w' ⟨rfl, hb⟩; have hb2 := hB.trans (hb.mono hB.size)) | (refine wpList_store_row rfl 87 (.tmp 4) (.tmp 41) rfl w.heap.size _ rfl rfl 87 _ (HK.out _ hb2) ?h1 ?h2 ?h3 ?h4))
       case h1 => kernel_rfl
       case h2 => rfl
       case h3 => simp [Value.oneCell']
       case h4 =>
        go_wp2
        refine bodyPost_ret (results_cell_row rfl _ _ w.heap.size 87 _ (0, 0) _ rfl (setRow_heap _ _ _ _ _ _ (HK.out _ hb2)) Try.underlying87 rfl (by kernel_rfl)) rfl ⟨?_, ?_⟩
        ·rw [← HRs.out, if_neg (by rw [HT.out]; exact hk0), HT.out]; rfl
        ·exact Go.Det.below_setRow (hB0.trans (hb2.mono hB0.size)) (by omega) _
    ·have hl2 : ¬ (k : Int) < (t.size : Int) := by omega
     have HT : Hid (plainTo t t.size 0 = k) := Lib.hid (H.out.2.trans (Hstop.out (fun h => hlt h.1)))
     have hk0 : ¬ k = 0 := by omega
     have hk1 : ¬ (k : Int) = 0 := by omega
     have hk2 : ((k : Int) == 0) = false := beq_eq_false_iff_ne.2 hk1
     have hsl := fun W => Go.Det.sl_strh (P := Try.prog) Try.underlying9 t k (by omega) W
     clear hk1 Hstop H
     go_wp2_with (first | (refine wpList_store_row rfl 87 (.tmp 4) (.tmp 41) rfl w.heap.size _ rfl rfl 87 _ (HK.out _ hB) (by kernel_rfl) rfl (by simp [Value.oneCell']) ?h4))
     case h4 =>
      go_wp2
      refine bodyPost_ret (results_cell_row rfl _ _ w.heap.size 87 _ (0, 0) _ rfl (setRow_heap _ _ _ _ _ _ (HK.out _ hB)) Try.underlying87 rfl (by kernel_rfl)) rfl ⟨?_, ?_⟩
      ·rw [← HRs.out, if_neg (by rw [HT.out]; exact hk0), HT.out]; rfl
      ·exact Go.Det.below_setRow (hB0.trans (hB.mono hB0.size)) (by omega) _
end Go.Proofs.Ythcmfjpheanphaa.Pr
namespace Go.Proofs.Ythcmfjpheanphaa.Pr
open Go.RowKit Go.Shelf Go.Proofs.YthcmfjpheanphaaW.PrintWords
attribute [local go_sem] Oper.semAt_some
theorem openN_pref (t x : ByteArray) (h : openN t = some x) : prefP (t.extract 1 t.size) x = true ∧ x ∈ namesL := by
 unfold openN at h
 exact ⟨List.find?_some (p := fun n => prefP (t.extract 1 t.size) n) h, List.mem_of_find?_eq_some h⟩
theorem prefP_size {t n : ByteArray} (h : prefP t n = true) : n.size ≤ t.size := by
 unfold prefP at h
 split at h
 ·assumption
 ·cases h
theorem nextP_ok (t : ByteArray) (a : Int) (h1 : 1 ≤ t.size) (h : (nextP t a).e = 0) : 1 ≤ (nextP t a).size ∧ (nextP t a).size ≤ t.size := by
 unfold nextP at h ⊢
 split
 ·rename_i h123
  rw [if_pos h123] at h
  unfold openP at h ⊢
  cases ho : openN t with
  | none => rw [ho] at h; simp at h
  | some x =>
   simp only
   have hp := openN_pref t x ho
   have := prefP_size hp.1
   rw [ByteArray.size_extract] at this
   split <;> omega
 ·rename_i h123
  rw [if_neg h123] at h
  split
  ·simp only; omega
  ·rename_i h125
   rw [if_neg h125] at h
   split
   ·rename_i h0
    rw [if_pos h0] at h
    simp at h
   ·have := plainTo_size t t.size 0 (by omega)
    simp only; omega
def allL (s : ByteArray) : Nat → Nat → List (Nat × Spot)
 | 0, _ => []
 | d + 1, at_ => if at_ < s.size then (at_, nextP (s.extract at_ s.size) at_) :: (if (nextP (s.extract at_ s.size) at_).e = 0 then allL s d (at_ + (nextP (s.extract at_ s.size) at_).size.toNat) else []) else []
def encA (x : Nat × Spot) : Array Value := #[.int .i64 x.1, encSpot x.2]
def KS (B : Nat) (W W' : World) : Prop := W'.heap[B]? = W.heap[B]? ∧ ∀ (g : Nat) (cs : Array Value), W.heap[g]? = some (.cells cs 87 (0, 0)) → W'.heap[g]? = some (.cells cs 87 (0, 0))
theorem KS_t {B : Nat} {X Y Z : World} (h : KS B X Y) (k : KS B Y Z) : KS B X Z := ⟨k.1.trans h.1, fun g cs hg => k.2 g cs (h.2 g cs hg)⟩
theorem KS_b {B : Nat} {w : World} (hB : B < w.heap.size) (W : World) (l : Nat) (o o' : Obj) (hl : w.heap.size ≤ l) (ho : W.heap[l]? = some o) (hc : o.isCells = false) (_ : o.isWalk = false) : KS B W (W.putObj l o') :=
 ⟨World.putObj_heap_other (by omega), fun g cs hg => by
  by_cases hgl : g = l
  ·subst hgl
   rw [ho] at hg
   cases hg
   cases hc
  ·rw [World.putObj_heap_other hgl]; exact hg⟩
set_option pp.maxSteps 3000 in
set_option maxRecDepth 100000 in
set_option maxHeartbeats 4000000 in
theorem all1_in (n : Nat) (hn : 1 ≤ n) (l Bs : Nat) (s : ByteArray) (hs : s.size ≤ 1000000) (J Jx : List (Nat × Spot) → World → Prop) (W : World) (hJ : AbidesFrom W.heap.size J)
  (hY : ∀ pre x W, J pre W → pre.length < s.size → YieldAt Fence.wide (n - 1) Try.prog l (encA x) W fun e W' =>
   (e = .returned (.bool true) ∧ J (pre ++ [x]) W' ∧ KS Bs W W') ∨ (e = .returned (.bool false) ∧ Jx (pre ++ [x]) W'))
  (hb : Boxed W Bs 9 (.string s)) (h0 : J [] W) :
  CallsIn Fence.wide n Try.prog 129 #[.func (.yield l) #[] #[], .pointer (some ⟨Bs, 0, none⟩)] W fun e W' => (∃ v, e = .returned v) ∧
   ((∃ ys, ys = allL s s.size 0 ∧ J ys W') ∨ (∃ pre, pre <+: allL s s.size 0 ∧ Jx pre W')) := by
 refine callsIn_of_wp Try.func129 rfl trivial ?_ rfl
 simp only [Try.ntmps129, List.size_toArray, List.length_cons, List.length_nil, Nat.reduceAdd, Nat.reduceSub, Array.replicate_succ, Array.replicate_zero, List.push_toArray, List.append_toArray, List.nil_append, List.cons_append]
 gi_wp2
 gi_loopw [3] (fun i wr => ∃ (k d : Nat) (pre : List (Nat × Spot)), k ≤ s.size ∧ i = .int .i64 k ∧ s.size ≤ d + k ∧ allL s s.size 0 = pre ++ allL s d k ∧ pre.length ≤ k ∧ J pre wr ∧ Boxed wr Bs 9 (.string s))
  (fun i _ => s.size - (intOf i).toNat)
 case atStart => exact ⟨0, s.size, [], Nat.zero_le _, rfl, by omega, rfl, Nat.le_refl _, h0, hb⟩
 case round =>
  obtain ⟨k, d, pre, hk, rfl, hd, hL, hpl, hJs, hB⟩ := hrel
  have hcx := hB.cell
  by_cases hlt : k < s.size
  ·have hl2 : (k : Int) < (s.size : Int) := by omega
   obtain ⟨d, rfl⟩ : ∃ d', d = d' + 1 := ⟨d - 1, by omega⟩
   have hsl := fun W => Go.Det.sl_strl (P := Try.prog) Try.underlying9 s k (by omega) W
   have htz : (s.extract k s.size).size = s.size - k := by rw [ByteArray.size_extract]; omega
   have hnx := fun w => next_calls (s.extract k s.size) k (by omega) (by omega) w
   have hok := nextP_ok (s.extract k s.size) k (by omega)
   have hLs : allL s (d + 1) k = (k, nextP (s.extract k s.size) k) :: (if (nextP (s.extract k s.size) k).e = 0 then allL s d (k + (nextP (s.extract k s.size) k).size.toNat) else []) := by simp only [allL]; rw [if_pos hlt]
   rw [hLs] at hL
   clear hLs
   rw [htz] at hok
   generalize s.extract k s.size = t at *
   generalize nextP t k = x at *
   obtain ⟨⟨f0, f1, f2, f3⟩, sz, er⟩ := x
   have HL := Lib.hid hL
   have HN := Lib.hid hnx
   have HO := Lib.hid hok
   clear hL hnx hok hb htz
   gi_wp2_with fail
   refine ⟨trivial, (callsIn_wide.2 (HN.out _)).mono ?_⟩
   rintro e w2 ⟨rfl, hb2⟩
   unfold encSpot
   have hB2 := boxed_below hB hb2
   have hJ2 : J pre w2 := hJ _ _ _ none hJs (grown_of_below hb2 none) (by simp)
   have hJ3 : J pre (w2.alloc (.cells #[.int .i64 f0, .int .u8 f1, .string f2, .int .i64 f3, .int .i64 sz, .int .i64 er] 87)) := hJ _ _ _ none hJ2 (World.grownBy_alloc _ _ none) (by simp)
   have hB3 := hB2.alloc (.cells #[.int .i64 f0, .int .u8 f1, .string f2, .int .i64 f3, .int .i64 sz, .int .i64 er] 87)
   have hS3 := blk_new w2 (.cells #[.int .i64 f0, .int .u8 f1, .string f2, .int .i64 f3, .int .i64 sz, .int .i64 er] 87)
   clear hb2 hJs hB hcx
   obtain ⟨fn, tmps, assign, body, hy, hR⟩ := hY pre (k, ⟨⟨f0, f1, f2, f3⟩, sz, er⟩) _ hJ3 (by omega)
   dsimp only [encA, encSpot] at hy
   gi_wp2_with fail
   refine hR.mono ?_
   rintro e W3 (⟨rfl, hJ4, hk3⟩ | ⟨rfl, hJx4⟩)
   ·have hblk := hk3.2 _ _ hS3
    have hsz := blk_cell hblk 4
    have hse := blk_cell hblk 5
    simp only [List.getElem?_toArray, List.getElem?_cons_succ, List.getElem?_cons_zero] at hsz hse
    have hB4 := boxed_keptB hB3 hk3.1
    by_cases her : er = 0
    ·have hoo := HO.out her
     subst her
     obtain ⟨z, rfl⟩ : ∃ z : Nat, sz = z := ⟨sz.toNat, by omega⟩
     clear hblk HO hB2 hB3 hk3 hJ2 hJ3 hS3
     gi_wp2
     go_roundw
     case rel =>
      refine ⟨k + z, d, pre ++ [(k, ⟨⟨f0, f1, f2, f3⟩, z, 0⟩)], by omega, by go_num, by omega, ?_, by rw [List.length_append]; simp only [List.length_singleton]; omega, hJ4, hB4⟩
      rw [HL.out]; simp
     case measure => simp [intOf]; omega
    ·have hb1 : (er == 0) = false := beq_eq_false_iff_ne.2 her
     have hb2 : (er != 0) = true := bne_iff_ne.2 her
     have hend : Hid (allL s s.size 0 = pre ++ [(k, ⟨⟨f0, f1, f2, f3⟩, sz, er⟩)]) := Lib.hid (by rw [HL.out]; simp [her])
     clear hblk HO hB2 hB3 hk3 hJ2 hJ3 hS3 her
     gi_wp2
     refine bodyPost_ret (results_none rfl _ _ _) rfl ?_
     exact ⟨⟨_, rfl⟩, .inl ⟨_, hend.out.symm, hJ4⟩⟩
   ·clear HO hB2 hB3 hJ2 hJ3
    gi_wp2
    refine bodyPost_ret (results_none rfl _ _ _) rfl ?_
    exact ⟨⟨_, rfl⟩, .inr ⟨_, ⟨_, by rw [HL.out, List.append_assoc]; rfl⟩, hJx4⟩⟩
  ·gi_wp2
   go_end0
   have hL2 : allL s s.size 0 = pre := by
    rw [hL]
    cases d with
    | zero => simp [allL]
    | succ d => simp [allL, hlt]
   exact ⟨⟨_, rfl⟩, .inl ⟨pre, hL2.symm, hJs⟩⟩
theorem all_stops (n : Nat) (hn : 1 ≤ n) (Bs : Nat) (s : ByteArray) (hs : s.size ≤ 1000000) (w : World) (hb : Boxed w Bs 9 (.string s)) :
  SeqStopsK Fence.wide n Try.prog 129 #[.pointer (some ⟨Bs, 0, none⟩)] encA (KS Bs) (fun ys => ys = allL s s.size 0) (fun pre => pre <+: allL s s.size 0) s.size w := fun l J Jx W hW hJ _ hY h0 =>
 all1_in n hn l Bs s hs J Jx W hJ hY (boxed_below hb hW) h0
set_option maxHeartbeats 400000 in
theorem all_in (s : ByteArray) (n : Nat) (w : World) :
  CallsIn Fence.wide n Try.prog 82 #[.string s] w fun e w' => e = .returned (.func (.func 129) #[] #[.pointer (some ⟨w.heap.size, 0, none⟩)]) ∧ w' = w.alloc (.cells #[.string s] 9) := by
 refine callsIn_of_wp Try.func82 rfl trivial ?_ rfl
 simp only [Try.ntmps82, List.size_toArray, List.length_cons, List.length_nil, Nat.reduceAdd, Nat.reduceSub, Array.replicate_succ, Array.replicate_zero, List.push_toArray, List.append_toArray, List.nil_append, List.cons_append]
 gi_wp2
 go_ret
 exact ⟨rfl, rfl⟩
def flat47 (xs : List S47) : List Value := xs.flatMap fun x => [.int .i64 x.f0, .int .u8 x.f1, .string x.f2, .int .i64 x.f3]
theorem flat47_length (xs : List S47) : (flat47 xs).length = xs.length * 4 := by
 induction xs with
 | nil => rfl
 | cons x xs ih => simp [flat47] at ih ⊢; omega
theorem flat47_snoc (xs : List S47) (x : S47) : flat47 (xs ++ [x]) = flat47 xs ++ [.int .i64 x.f0, .int .u8 x.f1, .string x.f2, .int .i64 x.f3] := by simp [flat47]
theorem flat47_at (xs : List S47) : ∀ (j : Nat) (p : S47), xs[j]? = some p → ((flat47 xs).drop (j * 4)).take 4 = [.int .i64 p.f0, .int .u8 p.f1, .string p.f2, .int .i64 p.f3] := by
 induction xs with
 | nil => intro j p h; simp at h
 | cons x xs ih =>
  intro j p h
  cases j with
  | zero => simp at h; subst h; simp [flat47]
  | succ j =>
   have := ih j p (by simpa using h)
   rw [Nat.succ_mul]
   simp only [flat47, List.flatMap_cons] at this ⊢
   rw [show ∀ l : List Value, (([.int .i64 x.f0, .int .u8 x.f1, .string x.f2, .int .i64 x.f3] : List Value) ++ l).drop (j * 4 + 4) = l.drop (j * 4) from fun l => rfl]
   exact this
theorem own_R47 {w : World} {base : Nat} {v : Value} {xs : List S47} (h : w.ownsRow base 47 4 v xs.length (flat47 xs)) (b' : Nat) (hb : b' ≤ base) : Kd.R k47 47 w b' (fun _ => True) v xs := by
 refine Kd.R_lower (base := base) ⟨fun _ _ => trivial, flat47 xs, h, flat47_length xs, fun j p hp => ?_⟩ hb
 have := flat47_at xs j p hp
 show k47.M _ _ _ _ (((flat47 xs).drop (j * 4)).take 4)
 rw [this]
 exact k47_mkM _ _ _ _
theorem info47h : (Try.prog.info? 47).map (fun i => (i.zero, i.size, i.bytes)) = some (some (.agg #[(.int .i64 0), (.int .u8 0), (.string ⟨#[]⟩), (.int .i64 0)]), 4, 40) := by kernel_rfl
def lexes (pre : List (Nat × Spot)) : List S47 := pre.map (·.2.l)
def lastAt (pre : List (Nat × Spot)) : Int := match pre.getLast? with | some x => x.1 | none => 0
def lastE (pre : List (Nat × Spot)) : Int := match pre.getLast? with | some x => x.2.e | none => 0
def lexP (s : ByteArray) : List S47 × Int × Int :=
 if 8192 < s.size then ([], 0, 4)
 else if lastE (allL s s.size 0) = 0 then (lexes (allL s s.size 0), 0, 0) else ([], lastAt (allL s s.size 0), lastE (allL s s.size 0))
theorem lastE_snoc (pre : List (Nat × Spot)) (x : Nat × Spot) : lastE (pre ++ [x]) = x.2.e := by simp [lastE]
theorem lastAt_snoc (pre : List (Nat × Spot)) (x : Nat × Spot) : lastAt (pre ++ [x]) = x.1 := by simp [lastAt]
theorem lexes_snoc (pre : List (Nat × Spot)) (x : Nat × Spot) : lexes (pre ++ [x]) = lexes pre ++ [x.2.l] := by simp [lexes]
theorem lexes_length (pre : List (Nat × Spot)) : (lexes pre).length = pre.length := by simp [lexes]
theorem allL_whole (s : ByteArray) : ∀ (d k : Nat) (pre : List (Nat × Spot)), pre <+: allL s d k → lastE pre ≠ 0 → pre = allL s d k
 | 0, k, pre, h, he => by
  simp only [allL] at h ⊢
  exact List.prefix_nil.1 h
 | d + 1, k, pre, h, he => by
  simp only [allL] at h ⊢
  split at h
  ·rename_i hk
   rw [if_pos hk]
   cases pre with
   | nil => simp [lastE] at he
   | cons y pre =>
    rw [List.cons_prefix_cons] at h
    obtain ⟨rfl, h⟩ := h
    cases pre with
    | nil =>
     have : (nextP (s.extract k s.size) k).e ≠ 0 := by simpa [lastE] using he
     rw [if_neg this]
    | cons z pre =>
     split at h
     ·rename_i h0
      rw [if_pos h0]
      congr 1
      exact allL_whole s d _ (z :: pre) h (by simpa [lastE] using he)
     ·simp at h
  ·have := List.prefix_nil.1 h
   subst this
   simp [lastE] at he
theorem boxed_if {W : World} {B : Nat} {t : TypeId} {v : Value} (h : Boxed W B t v) (B1 : Nat) (v1 : Value) : Boxed (W.setCell ⟨B1, 0, none⟩ v1) B t (if B1 = B then v1 else v) := by
 by_cases e : B1 = B
 ·subst e; rw [if_pos rfl]; exact h.set _
 ·rw [if_neg e]; exact h.other (fun h => e h.symm) _
theorem boxed3 {W : World} {B : Nat} {t : TypeId} {v v' : Value} (h : Boxed W B t v) (B1 B2 B3 : Nat) (v1 v2 v3 : Value) (e : (if B3 = B then v3 else if B2 = B then v2 else if B1 = B then v1 else v) = v') :
  Boxed (((W.setCell ⟨B1, 0, none⟩ v1).setCell ⟨B2, 0, none⟩ v2).setCell ⟨B3, 0, none⟩ v3).drew B t v' := by
 subst e
 exact boxed_drew (boxed_if (boxed_if (boxed_if h B1 v1) B2 v2) B3 v3)
theorem boxed3n {W : World} {B : Nat} {t : TypeId} {v v' : Value} (h : Boxed W B t v) (B1 B2 B3 : Nat) (v1 v2 v3 : Value) (e : (if B3 = B then v3 else if B2 = B then v2 else if B1 = B then v1 else v) = v') :
  Boxed (((W.setCell ⟨B1, 0, none⟩ v1).setCell ⟨B2, 0, none⟩ v2).setCell ⟨B3, 0, none⟩ v3) B t v' := by
 subst e
 exact boxed_if (boxed_if (boxed_if h B1 v1) B2 v2) B3 v3
def spotCells (x : Spot) : Array Value := #[.int .i64 x.l.f0, .int .u8 x.l.f1, .string x.l.f2, .int .i64 x.l.f3, .int .i64 x.size, .int .i64 x.e]
theorem blk_own {W W' : World} {row : Option Nat} {g B : Nat} {cs : Array Value} {t : TypeId} (h : W.heap[g]? = some (.cells cs t (0, 0))) (hg : W.grownBy W' row) (hr : ∀ r, row = some r → B ≤ r ∧ ∃ o : Obj, W.heap[r]? = some o ∧ o.isCells = false) : W'.heap[g]? = some (.cells cs t (0, 0)) :=
 (hg.block g (blk_lt h) (fun e => by
  obtain ⟨_, o, ho, hc⟩ := hr g e.symm
  rw [h] at ho
  cases ho
  cases hc)).trans h
set_option pp.maxSteps 1500 in
set_option maxRecDepth 100000 in
set_option maxHeartbeats 4000000 in
theorem lexOf_in (s : ByteArray) (hs : s.size ≤ 8192) (w : World) :
  CallsIn Fence.wide 3 Try.prog 45 #[.string s] w fun e W' => ∃ v l a b, e = .returned (.tuple #[v, .int .i64 a, .int .i64 b]) ∧ lexP s = (l, a, b) ∧ Kd.R k47 47 W' w.heap.size (fun _ => True) v l ∧ Below w.heap.size w W' := by
 obtain ⟨i0, hi, hz0, hz1, hz2⟩ := info_parts info47h
 refine callsIn_of_wp_marks Try.func45 rfl trivial ?_ rfl
 simp only [Try.ntmps45, List.size_toArray, List.length_cons, List.length_nil, Nat.reduceAdd, Nat.reduceSub, Array.replicate_succ, Array.replicate_zero, List.push_toArray, List.append_toArray, List.nil_append, List.cons_append]
 have hs2 : (s.size : Int) ≤ 8192 := by omega
 gi_wp2_with (refine ⟨trivial, ?_⟩; gi_at_call 82; refine (all_in s _ _).mono ?_; rintro e w' ⟨rfl, rfl⟩)
 have b0 := (((Boxed.new w 41 (.slice none 0 0)).alloc (.cells #[.int .i64 0] 3)).alloc (.cells #[.int .i64 0] 42)).alloc (.cells #[.string s] 9)
 have b1 := ((Boxed.new (w.alloc (.cells #[.slice none 0 0] 41)) 3 (.int .i64 0)).alloc (.cells #[.int .i64 0] 42)).alloc (.cells #[.string s] 9)
 have b2 := (Boxed.new ((w.alloc (.cells #[.slice none 0 0] 41)).alloc (.cells #[.int .i64 0] 3)) 42 (.int .i64 0)).alloc (.cells #[.string s] 9)
 have b3 := Boxed.new (((w.alloc (.cells #[.slice none 0 0] 41)).alloc (.cells #[.int .i64 0] 3)).alloc (.cells #[.int .i64 0] 42)) 9 (.string s)
 have hB0 : Below w.heap.size w ((((w.alloc (.cells #[.slice none 0 0] 41)).alloc (.cells #[.int .i64 0] 3)).alloc (.cells #[.int .i64 0] 42)).alloc (.cells #[.string s] 9)) :=
  ((((Below.refl _ w).alloc (Nat.le_refl _) _).alloc (by simp) _).alloc (by simp; omega) _).alloc (by simp; omega) _
 have hz : ((((w.alloc (.cells #[.slice none 0 0] 41)).alloc (.cells #[.int .i64 0] 3)).alloc (.cells #[.int .i64 0] 42)).alloc (.cells #[.string s] 9)).heap.size = w.heap.size + 4 := by simp
 simp only [World.size_alloc] at b0 b1 b2 b3
 obtain ⟨W0, hW0⟩ : ∃ W0, ((((w.alloc (.cells #[.slice none 0 0] 41)).alloc (.cells #[.int .i64 0] 3)).alloc (.cells #[.int .i64 0] 42)).alloc (.cells #[.string s] 9)) = W0 := ⟨_, rfl⟩
 rw [hW0] at b0 b1 b2 b3 hB0 hz ⊢
 clear hW0
 apply wpIn_rangeFunc_ownH rfl (by omega) (gf := 129) (lb := #[.pointer (some ⟨w.heap.size + 1 + 1 + 1, 0, none⟩)]) rfl trivial (enters_of Try.func129 (by kernel_rfl) rfl)
  (all_stops _ (by omega) (w.heap.size + 1 + 1 + 1) s (by omega) W0 b3) KS_t (KS_b (by omega)) (Below.refl _ _) (fun _ => rfl)
  (fun pre W => (∃ v, Boxed W w.heap.size 41 v ∧ W.ownsRow w.heap.size 47 4 v pre.length (flat47 (lexes pre)) ∧ True) ∧ (Boxed W (w.heap.size + 1) 3 (.int .i64 0) ∧ Boxed W (w.heap.size + 1 + 1) 42 (.int .i64 0) ∧ Boxed W (w.heap.size + 1 + 1 + 1) 9 (.string s)) ∧ Below w.heap.size w W ∧ lastE pre = 0)
  (fun c pre W => (c = .ret ∧ lastE pre ≠ 0) ∧ (Boxed W w.heap.size 41 (.slice none 0 0) ∧ Boxed W (w.heap.size + 1) 3 (.int .i64 (lastAt pre)) ∧ Boxed W (w.heap.size + 1 + 1) 42 (.int .i64 (lastE pre))) ∧ Below w.heap.size w W)
  (OwnFrom.and (Own.from (holdsRow_own w.heap.size w.heap.size 41 47 4 (fun pre => pre.length) (fun pre => flat47 (lexes pre)) (fun _ _ => True)) _) (OwnFrom.and (OwnFrom.and (Own.from (boxed_own' _ _ _) _) (OwnFrom.and (Own.from (boxed_own' _ _ _) _) (Own.from (boxed_own' _ _ _) _))) (OwnFrom.and (ownFrom_below (Nat.le_refl _) (by omega)) (ownFrom_pure _ _))))
  (fun c => OwnFrom.and (ownFrom_pure _ _) (OwnFrom.and (OwnFrom.and (Own.from (boxed_own' _ _ _) _) (OwnFrom.and (Own.from (boxed_own _ _ (fun pre => .int .i64 (lastAt pre))) _) (Own.from (boxed_own _ _ (fun pre => .int .i64 (lastE pre))) _))) (ownFrom_below (Nat.le_refl _) (by omega))))
  ⟨⟨_, b0, World.ownsRow_nil _ _ _ _, trivial⟩, ⟨b1, b2, b3⟩, hB0, rfl⟩
  (fun x a' W => ∃ Bx, w.heap.size + 4 ≤ Bx ∧ W.heap[Bx]? = some (.cells (spotCells x.2) 87 (0, 0)) ∧ a' = { tmps := #[.string s, undef, .pointer (some ⟨w.heap.size, 0, none⟩), .pointer (some ⟨w.heap.size + 1, 0, none⟩), .pointer (some ⟨w.heap.size + 1 + 1, 0, none⟩), .int .i64 x.1, .pointer (some ⟨Bx, 0, none⟩), .string s, .int .i64 s.size, .bool (decide (8192 < (s.size : Int))), .string s, .func (.func 129) #[] #[.pointer (some ⟨w.heap.size + 1 + 1 + 1, 0, none⟩)], .int .i64 x.1, encSpot x.2, undef, undef, undef, undef, undef, undef, undef, undef, undef, undef, undef, undef, undef, undef, undef, undef, undef, undef, undef, undef, undef, undef, undef], defers := [] })
  (fun x a' _ W W' row hs hg hr => by
   obtain ⟨Bx, g1, g2, g3⟩ := hs
   exact ⟨Bx, g1, blk_own g2 hg hr, g3⟩)
 case hassign =>
  rintro l pre ⟨k, ⟨⟨f0, f1, f2, f3⟩, sz, er⟩⟩ W K ⟨⟨v, hv, hrow, -⟩, ⟨h1, h2, h3⟩, hB, he⟩ hK
  dsimp only [encA, encSpot] at *
  have Hrow := Lib.hid hrow
  have HK := Lib.hid hK
  have hsz : w.heap.size + 4 ≤ W.heap.size := by have := h3.lt; omega
  clear hrow hK
  gi_wp2
  refine HK.out _ _ ((KeepsOthers.alloc _ _).from _) ⟨Below.heap_alloc _ _ _ h3.lt, fun g cs hg => blk_alloc hg _⟩ ⟨⟨v, hv.alloc _, Hrow.out.alloc _, trivial⟩, ⟨h1.alloc _, h2.alloc _, h3.alloc _⟩, hB.alloc hB.size _, he⟩ ⟨W.heap.size, hsz, blk_new W _, rfl⟩
 case hbody =>
  rintro l pre ⟨k, ⟨⟨f0, f1, f2, f3⟩, sz, er⟩⟩ a' W hl hr ⟨⟨v, hv, hrow, -⟩, ⟨h1, h2, h3⟩, hB, he⟩ ⟨Bx, hBx, hX, rfl⟩ hlt
  dsimp only [spotCells, encSpot] at *
  have c0 := blk_cell hX 0
  have c1 := blk_cell hX 1
  have c2 := blk_cell hX 2
  have c3 := blk_cell hX 3
  have c5 := blk_cell hX 5
  simp only [List.getElem?_toArray, List.getElem?_cons_succ, List.getElem?_cons_zero] at c0 c1 c2 c3 c5
  have hs4 : w.heap.size + 4 ≤ W.heap.size := by have := h3.lt; omega
  have hvc := hv.cell
  have hvf := hv.frozen
  by_cases her : er = 0
  ·subst her
   have Hr := Lib.hid hrow
   have HX := Lib.hid hX
   clear hrow hX c5
   have c5 : W.cell? ⟨Bx, 5, none⟩ = some (.int .i64 0) := by rw [blk_cell HX.out 5]; rfl
   gi_wp2_with (gi_at_builtin; refine wpListIn_append_own _ rfl _ _ 41 rfl w.heap.size 47 i0 (.agg #[(.int .i64 0), (.int .u8 0), (.string ⟨#[]⟩), (.int .i64 0)]) 4 40 Try.underlying41 hi hz0 hz1 hz2 rfl (by decide) _ _ _ rfl (Hr.out.alloc _) ⟨W.heap.size, 0, none⟩ 1 1 [.int .i64 f0, .int .u8 f1, .string f2, .int .i64 f3] rfl rfl ?c1 ?c2 ?c3 ?c4 ?c5 ?c6)
   case c1 => exact cells_new W [.int .i64 f0, .int .u8 f1, .string f2, .int .i64 f3] 47
   case c2 => simp [Value.oneCell']
   case c3 => unfold maxLen; omega
   case c4 => omega
   case c5 => simp; omega
   case c6 =>
    intro v' w1 hown' hgrow _
    obtain ⟨g', cap', rfl⟩ := ownsRow_succ hown'
    obtain ⟨hv1, hv2, hr2, hk2, hb2⟩ := hv.appended (by decide) Hr.out (show w.heap.size ≤ W.heap.size by omega) (Nat.le_refl _) hown' hgrow
    have hkeep : ∀ (g : Nat) (cs : Array Value) (t : TypeId), t ≠ 41 → t ≠ 47 → W.heap[g]? = some (.cells cs t (0, 0)) → (w1.setCell ⟨w.heap.size, 0, none⟩ (Value.slice (some ⟨g', 0, none⟩) (pre.length + 1) cap')).heap[g]? = some (.cells cs t (0, 0)) := fun g cs t ht1 ht2 hg => by
     have hgl : g ≠ w.heap.size := fun e => by
      subst e
      rw [show W.heap[w.heap.size]? = _ from hv] at hg
      simp only [Option.some.injEq, Obj.cells.injEq] at hg
      exact ht1 hg.2.1.symm
     rw [Below.heap_setCell _ _ _ _ hgl]
     exact (hgrow.block g (by simp; have := blk_lt hg; omega) (own_ne Hr.out hg (Ne.symm ht2))).trans (blk_alloc hg _)
    have q1 := hkeep _ _ 3 (by decide) (by decide) h1
    have q2 := hkeep _ _ 42 (by decide) (by decide) h2
    have q3 := hkeep _ _ 9 (by decide) (by decide) h3
    have q4 : ∀ (g : Nat) (cs : Array Value), W.heap[g]? = some (.cells cs 87 (0, 0)) → (w1.setCell ⟨w.heap.size, 0, none⟩ (Value.slice (some ⟨g', 0, none⟩) (pre.length + 1) cap')).heap[g]? = some (.cells cs 87 (0, 0)) := fun g cs hg => hkeep g cs 87 (by decide) (by decide) hg
    have q5 := h3
    have hc1 := hv1.cell
    have hf1 := hv1.frozen
    have HQ := Lib.hid (And.intro q1 (And.intro q2 (And.intro q3 (And.intro q4 (And.intro hr2 (And.intro hv2 hown'))))))
    clear q1 q2 q3 q4 hr2 hv2 hown' hkeep hv1 c0 c1 c2 c3 c5 hvc hvf
    gi_wp2
    obtain ⟨q1, q2, q3, q4, hr2, hv2, -⟩ := HQ.out
    refine ⟨hk2.from _, ⟨q3.trans (show W.heap[w.heap.size + 1 + 1 + 1]? = _ from h3).symm, q4⟩, ⟨_, hv2, ?_, trivial⟩, ⟨q1, q2, q3⟩, hB.trans (hb2.mono (by omega)), lastE_snoc _ _⟩
    rw [lexes_snoc, flat47_snoc]
    simpa using hr2
  ·have hb1 : (er == 0) = false := beq_eq_false_iff_ne.2 her
   have hb2 : (er != 0) = true := bne_iff_ne.2 her
   have Hr := Lib.hid hrow
   have HX := Lib.hid hX
   have e1 := h1.cell
   have e2 := h1.frozen
   have e3 := h2.cell
   have e4 := h2.frozen
   have Her := Lib.hid her
   clear hrow hX her
   gi_wp2
   have mixed : Try.prog.follows .mixedOrders = true := by kernel_rfl
   gi_region_with_o (fail)
   all_goals gi_wp2
   all_goals (try go_bits)
   all_goals
    refine ⟨?_, ⟨rfl, by rw [lastE_snoc]; exact Her.out⟩, ⟨?_, ?_, ?_⟩, ?_⟩
    ·exact (((((KeepsOthers.setCell _ _ _).trans (KeepsOthers.setCell _ _ _)).trans (KeepsOthers.setCell _ _ _)).trans (KeepsOthers.drew _)).from _)
    ·exact boxed3 hv _ _ _ _ _ _ (by simp <;> omega)
    ·rw [lastAt_snoc]
     exact boxed3 h1 _ _ _ _ _ _ (by simp <;> omega)
    ·rw [lastE_snoc]
     exact boxed3 h2 _ _ _ _ _ _ (by simp <;> omega)
    ·exact below_drew (((hB.setCell (by simp; try omega) _).setCell (by simp; try omega) _).setCell (by simp; try omega) _)
 case hdone =>
  rintro D ys W hD rfl ⟨⟨v, hv, hrow, -⟩, ⟨h1, h2, h3⟩, hB, he⟩ hK
  have e0 := hv.cell
  have e1 := hv.frozen
  have e2 := h1.cell
  have e3 := h1.frozen
  have e4 := h2.cell
  have e5 := h2.frozen
  have Hr := Lib.hid hrow
  have HK := Lib.hid hK
  obtain ⟨A, c, rfl⟩ := own_slice hrow
  clear hrow hK
  simp only [Exit.inBlock, Exit.then]
  gi_wp2
  have n0 := own_ne Hr.out hv (by decide)
  have n1 := own_ne Hr.out h1 (by decide)
  have n2 := own_ne Hr.out h2 (by decide)
  have hro := own_setCell (own_setCell (own_setCell Hr.out (p := ⟨w.heap.size, 0, none⟩) n0 (Value.slice A (allL s s.size 0).length c)) (p := ⟨w.heap.size + 1, 0, none⟩) n1 (Value.int IntKind.i64 0)) (p := ⟨w.heap.size + 1 + 1, 0, none⟩) n2 (Value.int IntKind.i64 0)
  have q0 := boxed3n hv w.heap.size (w.heap.size + 1) (w.heap.size + 1 + 1) (Value.slice A (allL s s.size 0).length c) (.int .i64 0) (.int .i64 0) (v' := Value.slice A (allL s s.size 0).length c) (by simp <;> omega)
  have q1 := boxed3n h1 w.heap.size (w.heap.size + 1) (w.heap.size + 1 + 1) (Value.slice A (allL s s.size 0).length c) (.int .i64 0) (.int .i64 0) (v' := .int .i64 0) (by simp)
  have q2 := boxed3n h2 w.heap.size (w.heap.size + 1) (w.heap.size + 1 + 1) (Value.slice A (allL s s.size 0).length c) (.int .i64 0) (.int .i64 0) (v' := .int .i64 0) (by simp)
  have hk2 : (((W.setCell ⟨w.heap.size, 0, none⟩ (Value.slice A (allL s s.size 0).length c)).setCell ⟨w.heap.size + 1, 0, none⟩ (.int .i64 0)).setCell ⟨w.heap.size + 1 + 1, 0, none⟩ (.int .i64 0)).heap[D]? = some (.deferred (some [])) := by
   rw [Below.heap_setCell _ _ _ _ (by simp; omega), Below.heap_setCell _ _ _ _ (by simp; omega), Below.heap_setCell _ _ _ _ (by simp; omega)]; exact HK.out
  have hbel : Below w.heap.size w (((W.setCell ⟨w.heap.size, 0, none⟩ (Value.slice A (allL s s.size 0).length c)).setCell ⟨w.heap.size + 1, 0, none⟩ (.int .i64 0)).setCell ⟨w.heap.size + 1 + 1, 0, none⟩ (.int .i64 0)) :=
   ((hB.setCell (show w.heap.size ≤ w.heap.size by omega) _).setCell (show w.heap.size ≤ w.heap.size + 1 by omega) _).setCell (show w.heap.size ≤ w.heap.size + 1 + 1 by omega) _
  clear e0 e1 e2 e3 e4 e5 hv h1 h2 h3 hB b0 b1 b2 b3 n0 n1 n2
  generalize (((W.setCell ⟨w.heap.size, 0, none⟩ (Value.slice A (allL s s.size 0).length c)).setCell ⟨w.heap.size + 1, 0, none⟩ (.int .i64 0)).setCell ⟨w.heap.size + 1 + 1, 0, none⟩ (.int .i64 0)) = W2 at *
  refine ⟨by simp, .inl ⟨_, _, rfl, run_takeDeferred hk2, ?_⟩⟩
  have hbd : Below w.heap.size W2 (W2.putObj D (.deferred none)) := belowK_b (w := w) (Nat.le_refl _) W2 D (.deferred (some [])) (.deferred none) (by omega) hk2 rfl rfl
  have p0 := (q0.kept (grownBy_putObj' W2 D (.deferred none)) (by simp; omega)).cell
  have p1 := (q1.kept (grownBy_putObj' W2 D (.deferred none)) (by simp; omega)).cell
  have p2 := (q2.kept (grownBy_putObj' W2 D (.deferred none)) (by simp; omega)).cell
  have hlex : lexP s = (lexes (allL s s.size 0), 0, 0) := by unfold lexP; rw [if_neg (by omega), if_pos he]
  have hro2 := ownsRow_putObj hro (.deferred none) hk2 rfl
  rw [show (allL s s.size 0).length = (lexes (allL s s.size 0)).length from (lexes_length _).symm] at hro2 p0 ⊢
  refine ⟨_, ?_, _, _, _, _, rfl, hlex, own_R47 hro2 _ (Nat.le_refl _), hbel.trans hbd⟩
  simp [results, Try.results45, go_sem, p0, p1, p2]
 case hstop =>
  rintro D c pre W hD hpre ⟨⟨rfl, he⟩, ⟨h0, h1, h2⟩, hB⟩ hK
  have hw := allL_whole s s.size 0 pre hpre he
  have hlex : lexP s = ([], lastAt pre, lastE pre) := by unfold lexP; rw [if_neg (by omega), ← hw, if_neg he]
  gi_wp2
  refine ⟨by simp, .inl ⟨_, _, rfl, run_takeDeferred hK, ?_⟩⟩
  have hbd : Below w.heap.size W (W.putObj D (.deferred none)) := belowK_b (w := w) (Nat.le_refl _) W D (.deferred (some [])) (.deferred none) (by omega) hK rfl rfl
  have p0 := (h0.kept (grownBy_putObj' W D (.deferred none)) (by simp; omega)).cell
  have p1 := (h1.kept (grownBy_putObj' W D (.deferred none)) (by simp; omega)).cell
  have p2 := (h2.kept (grownBy_putObj' W D (.deferred none)) (by simp; omega)).cell
  refine ⟨_, ?_, _, _, _, _, rfl, hlex, Kd.R_nil _ _ _ _ _, hB.trans hbd⟩
  simp [results, Try.results45, go_sem, p0, p1, p2]
set_option maxHeartbeats 1000000 in
theorem lexOf_long (s : ByteArray) (hs : 8192 < s.size) (w : World) :
  Calls Try.prog 45 #[.string s] w fun e W' => e = .returned (.tuple #[.slice none 0 0, .int .i64 0, .int .i64 4]) ∧ Below w.heap.size w W' := by
 have hs2 : (8192 : Int) < (s.size : Int) := by omega
 go_enter Try.func45, Try.ntmps45
 go_wp2
 refine bodyPost_ret (v := .tuple #[.slice none 0 0, .int .i64 0, .int .i64 4]) (by simp [results, Try.results45, go_sem]) rfl ⟨rfl, ?_⟩
 exact (((Below.refl _ w).alloc (Nat.le_refl _) _).alloc (by simp) _).alloc (by simp; omega) _
def lex_Of.f (a0 : ByteArray) : Option (List S47 × Int × Int) := some (lexP a0)
theorem lex_Of.calls (a0 : ByteArray) (r1 : List S47) (r2 r3 : Int) (w : World) (h : lex_Of.f a0 = some (r1, r2, r3)) :
  Calls Try.prog 45 #[.string a0] w fun e w' => ∃ v0_ : Value, e = .returned (.tuple #[v0_, .int .i64 r2, .int .i64 r3]) ∧ Kd.R k47 47 w' w.heap.size (fun _ => True) v0_ r1 ∧ Below w.heap.size w w' := by
 have h1 : lexP a0 = (r1, r2, r3) := Option.some.inj h
 by_cases hs : a0.size ≤ 8192
 ·refine (callsIn_wide.1 (lexOf_in a0 hs w)).mono ?_
  rintro e W' ⟨v, l, a, b, rfl, h2, h3, h4⟩
  rw [h1] at h2
  simp only [Prod.mk.injEq] at h2
  obtain ⟨rfl, rfl, rfl⟩ := h2
  exact ⟨v, rfl, h3, h4⟩
 ·have h2 : lexP a0 = ([], 0, 4) := if_pos (by omega)
  rw [h1] at h2
  simp only [Prod.mk.injEq] at h2
  obtain ⟨rfl, rfl, rfl⟩ := h2
  refine (lexOf_long a0 (by omega) w).mono ?_
  rintro e W' ⟨rfl, h4⟩
  exact ⟨_, rfl, Kd.R_nil _ _ _ _ _, h4⟩
end Go.Proofs.Ythcmfjpheanphaa.Pr
namespace Go.Proofs.Ythcmfjpheanphaa.Pr
open Go.RowKit Go.Proofs.YthcmfjpheanphaaW.PrintWords Go.Proofs.YthcmfjpheanphaaW.PrintLast Go.Proofs.YthcmfjpheanphaaW.PrintMore
attribute [local go_sem] max2_int min2_int max_two min_two max_three min_three max_four min_four
attribute [local go_sem high] eqA47
def stylusref03_Same.l0 : Nat → List (S47) → List (S47) → Int → Option (Bool)
 | 0, _, _, _ => none
 | k + 1, x0, x1, x5 => if x5 < (x0.length : Int) then (if 0 ≤ x5 then (if x5 < (x1.length : Int) then (if (!(((rd_T47 x0 x5).f0) == ((rd_T47 x1 x5).f0)) || (!(((rd_T47 x0 x5).f1) == ((rd_T47 x1 x5).f1)) || (!((((rd_T47 x0 x5).f2).toList) == (((rd_T47 x1 x5).f2).toList)) || (!(((rd_T47 x0 x5).f3) == ((rd_T47 x1 x5).f3)))))) = true then (some false) else (stylusref03_Same.l0 k x0 x1 (wrap64 (x5 + 1)))) else (none)) else (none)) else (some true)
def stylusref03_Same.f (k : Nat) (l0 : List (S47)) (l1 : List (S47)) : Option (Bool) := if (l0.length : Int) = (l1.length : Int) then (stylusref03_Same.l0 k l0 l1 0) else (some false)
theorem stylusref03_Same.mono_l : ∀ k, (∀ y0 y1 y2, LeO (stylusref03_Same.l0 k y0 y1 y2) (stylusref03_Same.l0 (k + 1) y0 y1 y2))
 | 0 => fun _ _ _ r h => by simp [stylusref03_Same.l0] at h
 | k + 1 => by
  have ih0 := stylusref03_Same.mono_l k
  ·intro y0 y1 y2
   unfold stylusref03_Same.l0
   repeat' first
   | (with_reducible exact ih0 _ _ _)
   | (with_reducible exact LeO.refl _)
   | (with_reducible exact LeO.none _)
   | (with_reducible refine LeO.ite ?_ ?_)
   | (with_reducible refine LeO.bind ?_ (fun _ => ?_))
   | exact ih0 _ _ _
   | exact LeO.none _
   | refine LeO.ite ?_ ?_
   | refine LeO.bind ?_ (fun _ => ?_)
theorem stylusref03_Same.mono : ∀ a0 a1 k, LeO (stylusref03_Same.f k a0 a1) (stylusref03_Same.f (k + 1) a0 a1) := by
 intro a0 a1 k
 have ih0 := stylusref03_Same.mono_l k
 unfold stylusref03_Same.f
 repeat' first
   | (with_reducible exact ih0 _ _ _)
   | (with_reducible exact LeO.refl _)
   | (with_reducible exact LeO.none _)
   | (with_reducible refine LeO.ite ?_ ?_)
   | (with_reducible refine LeO.bind ?_ (fun _ => ?_))
   | exact ih0 _ _ _
   | exact LeO.none _
   | refine LeO.ite ?_ ?_
   | refine LeO.bind ?_ (fun _ => ?_)
def styluslaw03_read.f (k : Nat) (a0 : ByteArray) (l1 : List (S47)) : Option (Bool) := (lex_Of.f a0).bind fun bt103 => (if bt103.2.2 = 0 then (if bt103.2.1 = 0 then ((stylusref03_Same.f k bt103.1 l1).bind fun t108 => (some t108)) else (some false)) else (some false))
theorem styluslaw03_read.mono : ∀ a0 a1 k, LeO (styluslaw03_read.f k a0 a1) (styluslaw03_read.f (k + 1) a0 a1) := by
 intro a0 a1 k
 unfold styluslaw03_read.f
 repeat' first
   | (with_reducible exact stylusref03_Same.mono _ _ _)
   | (with_reducible exact LeO.refl _)
   | (with_reducible exact LeO.none _)
   | (with_reducible refine LeO.ite ?_ ?_)
   | (with_reducible refine LeO.bind ?_ (fun _ => ?_))
   | exact stylusref03_Same.mono _ _ _
   | exact LeO.none _
   | refine LeO.ite ?_ ?_
   | refine LeO.bind ?_ (fun _ => ?_)
def styluslaw03_spoilt.f (a0 : ByteArray) (a1 : Int) (a2 : Int) : Option (Bool) := (lex_Of.f a0).bind fun bt109 => (if (bt109.1.length : Int) = 0 then (if bt109.2.1 = a1 then (some (bt109.2.2 == a2)) else (some false)) else (some false))
def styluslaw03_awake.f (k : Nat)  : Option (Bool) := (styluslaw03_read.f k (⟨#[123, 112, 32, 97, 32, 98, 125]⟩ : ByteArray) (([(⟨2, 112, (⟨#[]⟩ : ByteArray), 0⟩ : S47), (⟨1, 0, (⟨#[97, 32, 98]⟩ : ByteArray), 3⟩ : S47), (⟨3, 0, (⟨#[]⟩ : ByteArray), 6⟩ : S47)] : List (S47)))).bind fun t117 => (if t117 = true then ((styluslaw03_read.f k (⟨#[123, 104, 49, 97, 125, 125]⟩ : ByteArray) (([(⟨2, 49, (⟨#[]⟩ : ByteArray), 0⟩ : S47), (⟨1, 0, (⟨#[97]⟩ : ByteArray), 3⟩ : S47), (⟨3, 0, (⟨#[]⟩ : ByteArray), 4⟩ : S47), (⟨3, 0, (⟨#[]⟩ : ByteArray), 5⟩ : S47)] : List (S47)))).bind fun t121 => (if t121 = true then ((styluslaw03_read.f k (⟨#[]⟩ : ByteArray) ([] : List (S47))).bind fun t122 => (if t122 = true then ((styluslaw03_spoilt.f (⟨#[123, 113, 125]⟩ : ByteArray) 0 2).bind fun t123 => (if t123 = true then ((styluslaw03_spoilt.f (⟨#[97, 123]⟩ : ByteArray) 1 2).bind fun t124 => (if t124 = true then ((styluslaw03_spoilt.f (⟨#[97, 126]⟩ : ByteArray) 1 3).bind fun t125 => (if t125 = true then ((styluslaw03_spoilt.f (⟨#[123, 104, 52, 125]⟩ : ByteArray) 0 2).bind fun t126 => (some t126)) else (some false))) else (some false))) else (some false))) else (some false))) else (some false))) else (some false))
theorem styluslaw03_awake.mono : ∀ k, LeO (styluslaw03_awake.f k ) (styluslaw03_awake.f (k + 1) ) := by
 intro  k
 unfold styluslaw03_awake.f
 repeat' first
   | (with_reducible exact styluslaw03_read.mono _ _ _)
   | (with_reducible exact LeO.refl _)
   | (with_reducible exact LeO.none _)
   | (with_reducible refine LeO.ite ?_ ?_)
   | (with_reducible refine LeO.bind ?_ (fun _ => ?_))
   | exact styluslaw03_read.mono _ _ _
   | exact LeO.none _
   | refine LeO.ite ?_ ?_
   | refine LeO.bind ?_ (fun _ => ?_)
def stylusref03_Letters.f  : Option (ByteArray) := some (⟨#[49, 50, 51, 112, 108, 105, 116, 114, 99, 110, 101, 115, 107]⟩ : ByteArray)
mutual
def stylusref03_Name.j0 : Nat → Int → Bool → Option (ByteArray)
 | 0, _, _ => none
 | k + 1, x0, x13 => if x13 = true then ((some (([x0] : List Int) : List Int)).bind fun y127 => (if 1 + (strOfNums y127).size ≤ 9223372036854775807 then (some ((⟨#[104]⟩ : ByteArray) ++ (strOfNums y127))) else (none))) else (stylusref03_Name.l0 k x0 0)
def stylusref03_Name.l0 : Nat → Int → Int → Option (ByteArray)
 | 0, _, _ => none
 | k + 1, x0, x3 => (stylusref03_Letters.f).bind fun t130 => (if x3 < (t130.size : Int) then ((stylusref03_Letters.f).bind fun t131 => (if 0 ≤ x3 then (if x3 < (t131.size : Int) then (if (bt t131 x3) = x0 then (some (strOfNums (([x0] : List Int)))) else (stylusref03_Name.l0 k x0 (wrap64 (x3 + 1)))) else (none)) else (none))) else (some (⟨#[]⟩ : ByteArray)))
end
def stylusref03_Name.f (k : Nat) (a0 : Int) : Option (ByteArray) := if a0 = 49 then (stylusref03_Name.j0 k a0 true) else (if a0 = 50 then (stylusref03_Name.j0 k a0 true) else (stylusref03_Name.j0 k a0 (a0 == 51)))
theorem stylusref03_Name.mono_l : ∀ k, (∀ y0 y1, LeO (stylusref03_Name.j0 k y0 y1) (stylusref03_Name.j0 (k + 1) y0 y1)) ∧ (∀ y0 y1, LeO (stylusref03_Name.l0 k y0 y1) (stylusref03_Name.l0 (k + 1) y0 y1))
 | 0 => ⟨fun _ _ r h => by simp [stylusref03_Name.j0] at h, fun _ _ r h => by simp [stylusref03_Name.l0] at h⟩
 | k + 1 => by
  obtain ⟨ih0, ih1⟩ := stylusref03_Name.mono_l k
  refine ⟨?_, ?_⟩
  ·intro y0 y1
   unfold stylusref03_Name.j0
   repeat' first
   | (with_reducible exact ih0 _ _)
   | (with_reducible exact ih1 _ _)
   | (with_reducible exact LeO.refl _)
   | (with_reducible exact LeO.none _)
   | (with_reducible refine LeO.ite ?_ ?_)
   | (with_reducible refine LeO.bind ?_ (fun _ => ?_))
   | exact ih0 _ _
   | exact ih1 _ _
   | exact LeO.none _
   | refine LeO.ite ?_ ?_
   | refine LeO.bind ?_ (fun _ => ?_)
  ·intro y0 y1
   unfold stylusref03_Name.l0
   repeat' first
   | (with_reducible exact ih0 _ _)
   | (with_reducible exact ih1 _ _)
   | (with_reducible exact LeO.refl _)
   | (with_reducible exact LeO.none _)
   | (with_reducible refine LeO.ite ?_ ?_)
   | (with_reducible refine LeO.bind ?_ (fun _ => ?_))
   | exact ih0 _ _
   | exact ih1 _ _
   | exact LeO.none _
   | refine LeO.ite ?_ ?_
   | refine LeO.bind ?_ (fun _ => ?_)
theorem stylusref03_Name.mono : ∀ a0 k, LeO (stylusref03_Name.f k a0) (stylusref03_Name.f (k + 1) a0) := by
 intro a0 k
 obtain ⟨ih0, ih1⟩ := stylusref03_Name.mono_l k
 unfold stylusref03_Name.f
 repeat' first
   | (with_reducible exact ih0 _ _)
   | (with_reducible exact ih1 _ _)
   | (with_reducible exact LeO.refl _)
   | (with_reducible exact LeO.none _)
   | (with_reducible refine LeO.ite ?_ ?_)
   | (with_reducible refine LeO.bind ?_ (fun _ => ?_))
   | exact ih0 _ _
   | exact ih1 _ _
   | exact LeO.none _
   | refine LeO.ite ?_ ?_
   | refine LeO.bind ?_ (fun _ => ?_)
def stylusref03_opens.l0 : Nat → ByteArray → Int → Int → Option (Int × ByteArray)
 | 0, _, _, _ => none
 | k + 1, x0, x1, x6 => (stylusref03_Letters.f).bind fun t135 => (if x6 < (t135.size : Int) then ((stylusref03_Letters.f).bind fun t136 => (if 0 ≤ x6 then (if x6 < (t136.size : Int) then ((stylusref03_Name.f k (bt t136 x6)).bind fun t137 => (if (wrap64 ((wrap64 (x1 + 1)) + (t137.size : Int))) ≤ (x0.size : Int) then (if 0 ≤ (wrap64 (x1 + 1)) then (if (wrap64 (x1 + 1)) ≤ (wrap64 ((wrap64 (x1 + 1)) + (t137.size : Int))) then (if (x0.extract ((wrap64 (x1 + 1)) : Int).toNat ((wrap64 ((wrap64 (x1 + 1)) + (t137.size : Int))) : Int).toNat).toList = t137.toList then ((stylusref03_Letters.f).bind fun t138 => (if x6 < (t138.size : Int) then (some (bt t138 x6, t137)) else (none))) else (stylusref03_opens.l0 k x0 x1 (wrap64 (x6 + 1)))) else (none)) else (none)) else (stylusref03_opens.l0 k x0 x1 (wrap64 (x6 + 1))))) else (none)) else (none))) else (some (0, (⟨#[]⟩ : ByteArray))))
def stylusref03_opens.f (k : Nat) (a0 : ByteArray) (a1 : Int) : Option (Int × ByteArray) := stylusref03_opens.l0 k a0 a1 0
theorem stylusref03_opens.mono_l : ∀ k, (∀ y0 y1 y2, LeO (stylusref03_opens.l0 k y0 y1 y2) (stylusref03_opens.l0 (k + 1) y0 y1 y2))
 | 0 => fun _ _ _ r h => by simp [stylusref03_opens.l0] at h
 | k + 1 => by
  have ih0 := stylusref03_opens.mono_l k
  ·intro y0 y1 y2
   unfold stylusref03_opens.l0
   repeat' first
   | (with_reducible exact ih0 _ _ _)
   | (with_reducible exact stylusref03_Name.mono _ _)
   | (with_reducible exact LeO.refl _)
   | (with_reducible exact LeO.none _)
   | (with_reducible refine LeO.ite ?_ ?_)
   | (with_reducible refine LeO.bind ?_ (fun _ => ?_))
   | exact ih0 _ _ _
   | exact stylusref03_Name.mono _ _
   | exact LeO.none _
   | refine LeO.ite ?_ ?_
   | refine LeO.bind ?_ (fun _ => ?_)
theorem stylusref03_opens.mono : ∀ a0 a1 k, LeO (stylusref03_opens.f k a0 a1) (stylusref03_opens.f (k + 1) a0 a1) := by
 intro a0 a1 k
 have ih0 := stylusref03_opens.mono_l k
 unfold stylusref03_opens.f
 repeat' first
   | (with_reducible exact ih0 _ _ _)
   | (with_reducible exact stylusref03_Name.mono _ _)
   | (with_reducible exact LeO.refl _)
   | (with_reducible exact LeO.none _)
   | (with_reducible refine LeO.ite ?_ ?_)
   | (with_reducible refine LeO.bind ?_ (fun _ => ?_))
   | exact ih0 _ _ _
   | exact stylusref03_Name.mono _ _
   | exact LeO.none _
   | refine LeO.ite ?_ ?_
   | refine LeO.bind ?_ (fun _ => ?_)
def stylusref01_White.f (a0 : Int) : Option (Bool) := if a0 = 32 then (some true) else (some (a0 == 10))
end Go.Proofs.Ythcmfjpheanphaa.Pr
namespace Go.Proofs.Ythcmfjpheanphaa.Pr
open Go.RowKit Go.Proofs.YthcmfjpheanphaaW.PrintWords Go.Proofs.YthcmfjpheanphaaW.PrintLast Go.Proofs.YthcmfjpheanphaaW.PrintMore
attribute [local go_sem] max2_int min2_int max_two min_two max_three min_three max_four min_four
mutual
def stylusref03_Of.l0 : Nat → ByteArray → List (S47) → Int → Int → Option ((List (S47)) × Int × Int)
 | 0, _, _, _, _ => none
 | k + 1, x0, x5, x6, x7 => if x7 < (x0.size : Int) then (if 0 ≤ x7 then (if (bt x0 x7) = 125 then (if x5.length < 3518437208883 then (stylusref03_Of.l0 k x0 (x5 ++ [(⟨3, 0, (⟨#[]⟩ : ByteArray), x7⟩ : S47)]) 0 (wrap64 (x7 + 1))) else (none)) else (if (bt x0 x7) = 123 then ((stylusref03_opens.f k x0 x7).bind fun bt142 => (if bt142.1 = 0 then (some (([] : List (S47)), x7, 2)) else (if x5.length < 3518437208883 then ((some (x5 ++ [(⟨2, bt142.1, (⟨#[]⟩ : ByteArray), x7⟩ : S47)] : List (S47))).bind fun y144 => (if (wrap64 ((wrap64 (x7 + (bt142.2.size : Int))) + 1)) < (x0.size : Int) then (if 0 ≤ (wrap64 ((wrap64 (x7 + (bt142.2.size : Int))) + 1)) then ((stylusref01_White.f (bt x0 (wrap64 ((wrap64 (x7 + (bt142.2.size : Int))) + 1)))).bind fun t147 => (if t147 = true then (stylusref03_Of.l0 k x0 y144 0 (wrap64 ((wrap64 ((wrap64 (x7 + (bt142.2.size : Int))) + 1)) + 1))) else (stylusref03_Of.l0 k x0 y144 0 (wrap64 ((wrap64 (x7 + (bt142.2.size : Int))) + 1))))) else (none)) else (stylusref03_Of.l0 k x0 y144 0 (wrap64 ((wrap64 (x7 + (bt142.2.size : Int))) + 1))))) else (none)))) else ((stylusref01_Is.f k (bt x0 x7)).bind fun t148 => (if t148 = true then (stylusref03_Of.j1 k x0 x5 x6 x7 false) else ((stylusref01_White.f (bt x0 x7)).bind fun t149 => (stylusref03_Of.j1 k x0 x5 x6 x7 (!t149))))))) else (none)) else (some (x5, 0, 0))
def stylusref03_Of.j1 : Nat → ByteArray → List (S47) → Int → Int → Bool → Option ((List (S47)) × Int × Int)
 | 0, _, _, _, _, _ => none
 | k + 1, x0, x5, x6, x7, x76 => if x76 = true then (some (([] : List (S47)), x7, 3)) else (if x6 = 0 then (if x5.length < 3518437208883 then ((some (x5 ++ [(⟨1, 0, (⟨#[]⟩ : ByteArray), x7⟩ : S47)] : List (S47))).bind fun y150 => (if 0 ≤ (wrap64 ((y150.length : Int) - 1)) then (if (wrap64 ((y150.length : Int) - 1)) < (y150.length : Int) then (if 0 ≤ x7 then (if x7 ≤ (wrap64 (x7 + 1)) then (if (wrap64 (x7 + 1)) ≤ (x0.size : Int) then (if ((rd_T47 y150 (wrap64 ((y150.length : Int) - 1))).f2).size + (x0.extract (x7 : Int).toNat ((wrap64 (x7 + 1)) : Int).toNat).size ≤ 9223372036854775807 then (stylusref03_Of.l0 k x0 (y150.set ((wrap64 ((y150.length : Int) - 1)) : Int).toNat (⟨(rd_T47 y150 (wrap64 ((y150.length : Int) - 1))).f0, (rd_T47 y150 (wrap64 ((y150.length : Int) - 1))).f1, ((rd_T47 y150 (wrap64 ((y150.length : Int) - 1))).f2) ++ (x0.extract (x7 : Int).toNat ((wrap64 (x7 + 1)) : Int).toNat), (rd_T47 y150 (wrap64 ((y150.length : Int) - 1))).f3⟩ : S47)) 1 (wrap64 (x7 + 1))) else (none)) else (none)) else (none)) else (none)) else (none)) else (none))) else (none)) else (if 0 ≤ (wrap64 ((x5.length : Int) - 1)) then (if (wrap64 ((x5.length : Int) - 1)) < (x5.length : Int) then (if 0 ≤ x7 then (if x7 ≤ (wrap64 (x7 + 1)) then (if (wrap64 (x7 + 1)) ≤ (x0.size : Int) then (if ((rd_T47 x5 (wrap64 ((x5.length : Int) - 1))).f2).size + (x0.extract (x7 : Int).toNat ((wrap64 (x7 + 1)) : Int).toNat).size ≤ 9223372036854775807 then (stylusref03_Of.l0 k x0 (x5.set ((wrap64 ((x5.length : Int) - 1)) : Int).toNat (⟨(rd_T47 x5 (wrap64 ((x5.length : Int) - 1))).f0, (rd_T47 x5 (wrap64 ((x5.length : Int) - 1))).f1, ((rd_T47 x5 (wrap64 ((x5.length : Int) - 1))).f2) ++ (x0.extract (x7 : Int).toNat ((wrap64 (x7 + 1)) : Int).toNat), (rd_T47 x5 (wrap64 ((x5.length : Int) - 1))).f3⟩ : S47)) x6 (wrap64 (x7 + 1))) else (none)) else (none)) else (none)) else (none)) else (none)) else (none)))
end
def stylusref03_Of.f (k : Nat) (a0 : ByteArray) : Option ((List (S47)) × Int × Int) := if (a0.size : Int) > 8192 then (some (([] : List (S47)), 0, 4)) else (stylusref03_Of.l0 k a0 ([] : List (S47)) 0 0)
theorem stylusref03_Of.mono_l : ∀ k, (∀ y0 y1 y2 y3, LeO (stylusref03_Of.l0 k y0 y1 y2 y3) (stylusref03_Of.l0 (k + 1) y0 y1 y2 y3)) ∧ (∀ y0 y1 y2 y3 y4, LeO (stylusref03_Of.j1 k y0 y1 y2 y3 y4) (stylusref03_Of.j1 (k + 1) y0 y1 y2 y3 y4))
 | 0 => ⟨fun _ _ _ _ r h => by simp [stylusref03_Of.l0] at h, fun _ _ _ _ _ r h => by simp [stylusref03_Of.j1] at h⟩
 | k + 1 => by
  obtain ⟨ih0, ih1⟩ := stylusref03_Of.mono_l k
  refine ⟨?_, ?_⟩
  ·intro y0 y1 y2 y3
   unfold stylusref03_Of.l0
   repeat' first
   | (with_reducible exact ih0 _ _ _ _)
   | (with_reducible exact ih1 _ _ _ _ _)
   | (with_reducible exact stylusref01_Is.mono _ _)
   | (with_reducible exact stylusref03_opens.mono _ _ _)
   | (with_reducible exact LeO.refl _)
   | (with_reducible exact LeO.none _)
   | (with_reducible refine LeO.ite ?_ ?_)
   | (with_reducible refine LeO.bind ?_ (fun _ => ?_))
   | exact ih0 _ _ _ _
   | exact ih1 _ _ _ _ _
   | exact stylusref01_Is.mono _ _
   | exact stylusref03_opens.mono _ _ _
   | exact LeO.none _
   | refine LeO.ite ?_ ?_
   | refine LeO.bind ?_ (fun _ => ?_)
  ·intro y0 y1 y2 y3 y4
   unfold stylusref03_Of.j1
   repeat' first
   | (with_reducible exact ih0 _ _ _ _)
   | (with_reducible exact ih1 _ _ _ _ _)
   | (with_reducible exact stylusref01_Is.mono _ _)
   | (with_reducible exact stylusref03_opens.mono _ _ _)
   | (with_reducible exact LeO.refl _)
   | (with_reducible exact LeO.none _)
   | (with_reducible refine LeO.ite ?_ ?_)
   | (with_reducible refine LeO.bind ?_ (fun _ => ?_))
   | exact ih0 _ _ _ _
   | exact ih1 _ _ _ _ _
   | exact stylusref01_Is.mono _ _
   | exact stylusref03_opens.mono _ _ _
   | exact LeO.none _
   | refine LeO.ite ?_ ?_
   | refine LeO.bind ?_ (fun _ => ?_)
theorem stylusref03_Of.mono : ∀ a0 k, LeO (stylusref03_Of.f k a0) (stylusref03_Of.f (k + 1) a0) := by
 intro a0 k
 obtain ⟨ih0, ih1⟩ := stylusref03_Of.mono_l k
 unfold stylusref03_Of.f
 repeat' first
   | (with_reducible exact ih0 _ _ _ _)
   | (with_reducible exact ih1 _ _ _ _ _)
   | (with_reducible exact stylusref01_Is.mono _ _)
   | (with_reducible exact stylusref03_opens.mono _ _ _)
   | (with_reducible exact LeO.refl _)
   | (with_reducible exact LeO.none _)
   | (with_reducible refine LeO.ite ?_ ?_)
   | (with_reducible refine LeO.bind ?_ (fun _ => ?_))
   | exact ih0 _ _ _ _
   | exact ih1 _ _ _ _ _
   | exact stylusref01_Is.mono _ _
   | exact stylusref03_opens.mono _ _ _
   | exact LeO.none _
   | refine LeO.ite ?_ ?_
   | refine LeO.bind ?_ (fun _ => ?_)
mutual
def stylusref01_Case.l0 : Nat → ByteArray → Int → Int → Option (Int)
 | 0, _, _, _ => none
 | k + 1, x0, x3, x4 => if x4 < (x0.size : Int) then (if 0 ≤ x4 then ((stylusref01_Letter.f k (bt x0 x4)).bind fun t138 => (if t138 = true then ((stylusref01_Class.f k (bt x0 x4)).bind fun t139 => (if t139 = 2 then (stylusref01_Case.l0 k x0 (wrap64 (x3 + 1)) (wrap64 (x4 + 1))) else (stylusref01_Case.l0 k x0 x3 (wrap64 (x4 + 1))))) else (some 0))) else (none)) else (if (x0.size : Int) = 0 then (some 0) else (if x3 = 0 then (some 1) else (if x3 = 1 then (if 0 < (x0.size : Int) then ((stylusref01_Class.f k (bt x0 0)).bind fun t140 => (stylusref01_Case.j1 k x0 x3 (t140 == 2))) else (none)) else (stylusref01_Case.j1 k x0 x3 false))))
def stylusref01_Case.j1 : Nat → ByteArray → Int → Bool → Option (Int)
 | 0, _, _, _ => none
 | k + 1, x0, x3, x35 => if x35 = true then (some 2) else (if x3 = (x0.size : Int) then (some 3) else (some 4))
end
def stylusref01_Case.f (k : Nat) (a0 : ByteArray) : Option (Int) := stylusref01_Case.l0 k a0 0 0
theorem stylusref01_Case.mono_l : ∀ k, (∀ y0 y1 y2, LeO (stylusref01_Case.l0 k y0 y1 y2) (stylusref01_Case.l0 (k + 1) y0 y1 y2)) ∧ (∀ y0 y1 y2, LeO (stylusref01_Case.j1 k y0 y1 y2) (stylusref01_Case.j1 (k + 1) y0 y1 y2))
 | 0 => ⟨fun _ _ _ r h => by simp [stylusref01_Case.l0] at h, fun _ _ _ r h => by simp [stylusref01_Case.j1] at h⟩
 | k + 1 => by
  obtain ⟨ih0, ih1⟩ := stylusref01_Case.mono_l k
  refine ⟨?_, ?_⟩
  ·intro y0 y1 y2
   unfold stylusref01_Case.l0
   repeat' first
   | (with_reducible exact ih0 _ _ _)
   | (with_reducible exact ih1 _ _ _)
   | (with_reducible exact stylusref01_Class.mono _ _)
   | (with_reducible exact stylusref01_Letter.mono _ _)
   | (with_reducible exact LeO.refl _)
   | (with_reducible exact LeO.none _)
   | (with_reducible refine LeO.ite ?_ ?_)
   | (with_reducible refine LeO.bind ?_ (fun _ => ?_))
   | exact ih0 _ _ _
   | exact ih1 _ _ _
   | exact stylusref01_Class.mono _ _
   | exact stylusref01_Letter.mono _ _
   | exact LeO.none _
   | refine LeO.ite ?_ ?_
   | refine LeO.bind ?_ (fun _ => ?_)
  ·intro y0 y1 y2
   unfold stylusref01_Case.j1
   repeat' first
   | (with_reducible exact ih0 _ _ _)
   | (with_reducible exact ih1 _ _ _)
   | (with_reducible exact stylusref01_Class.mono _ _)
   | (with_reducible exact stylusref01_Letter.mono _ _)
   | (with_reducible exact LeO.refl _)
   | (with_reducible exact LeO.none _)
   | (with_reducible refine LeO.ite ?_ ?_)
   | (with_reducible refine LeO.bind ?_ (fun _ => ?_))
   | exact ih0 _ _ _
   | exact ih1 _ _ _
   | exact stylusref01_Class.mono _ _
   | exact stylusref01_Letter.mono _ _
   | exact LeO.none _
   | refine LeO.ite ?_ ?_
   | refine LeO.bind ?_ (fun _ => ?_)
theorem stylusref01_Case.mono : ∀ a0 k, LeO (stylusref01_Case.f k a0) (stylusref01_Case.f (k + 1) a0) := by
 intro a0 k
 obtain ⟨ih0, ih1⟩ := stylusref01_Case.mono_l k
 unfold stylusref01_Case.f
 repeat' first
   | (with_reducible exact ih0 _ _ _)
   | (with_reducible exact ih1 _ _ _)
   | (with_reducible exact stylusref01_Class.mono _ _)
   | (with_reducible exact stylusref01_Letter.mono _ _)
   | (with_reducible exact LeO.refl _)
   | (with_reducible exact LeO.none _)
   | (with_reducible refine LeO.ite ?_ ?_)
   | (with_reducible refine LeO.bind ?_ (fun _ => ?_))
   | exact ih0 _ _ _
   | exact ih1 _ _ _
   | exact stylusref01_Class.mono _ _
   | exact stylusref01_Letter.mono _ _
   | exact LeO.none _
   | refine LeO.ite ?_ ?_
   | refine LeO.bind ?_ (fun _ => ?_)
end Go.Proofs.Ythcmfjpheanphaa.Pr
namespace Go.Proofs.Ythcmfjpheanphaa.Pure
open Go.RowKit Go.Proofs.Ythcmfjpheanphaa.Pr Go.Proofs.YthcmfjpheanphaaW.PrintWords
theorem byte_ext (a b : ByteArray) (hs : a.size = b.size) (h : ∀ j : Nat, j < a.size → bt a j = bt b j) : a = b := by
 apply ByteArray.ext
 apply Array.ext
 ·exact hs
 ·intro i h1 h2
  have := h i h1
  have e1 : (i : Int).toNat < a.size := by simpa using h1
  have e2 : (i : Int).toNat < b.size := by simpa using h2
  simp only [bt, dif_pos e1, dif_pos e2] at this
  have h3 : (a[(i : Int).toNat]'e1).toNat = (b[(i : Int).toNat]'e2).toNat := by omega
  have h4 := UInt8.toNat_inj.1 h3
  simpa [ByteArray.getElem_eq_getElem_data] using h4
theorem bt_extract (s : ByteArray) (i q : Nat) (h : q ≤ s.size) (j : Nat) (hj : i + j < q) : bt (s.extract i q) (j : Int) = bt s ((i + j : Nat) : Int) := by
 have h1 : (j : Int).toNat < (s.extract i q).size := by rw [ByteArray.size_extract]; simp; omega
 have h2 : ((i + j : Nat) : Int).toNat < s.size := by simp; omega
 simp only [bt, dif_pos h1, dif_pos h2]
 simp only [ByteArray.getElem_extract, Int.toNat_natCast]
end Go.Proofs.Ythcmfjpheanphaa.Pure
namespace Go.Proofs.Ythcmfjpheanphaa.Pr
open Go.RowKit Go.Proofs.YthcmfjpheanphaaW.PrintWords
def refStep (s : ByteArray) (k : Nat) (L : List S27) : List S27 :=
 match L.getLast? with
 | some p => if clsAt s k = clsAt s (k - 1) then L.dropLast ++ [⟨p.f0, p.f1 ++ s.extract k (k + 1)⟩] else L ++ [⟨k, s.extract k (k + 1)⟩]
 | none => L ++ [⟨k, s.extract k (k + 1)⟩]
def refL (s : ByteArray) : Nat → List S27
 | 0 => []
 | k + 1 => refStep s k (refL s k)
def stylusref01_Runs.f (a0 : ByteArray) : Option (List S27) := if a0.size ≤ 1000000 then some (refL a0 a0.size) else none
end Go.Proofs.Ythcmfjpheanphaa.Pr
