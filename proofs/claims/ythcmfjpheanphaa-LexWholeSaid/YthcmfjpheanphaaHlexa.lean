/- lex.names, lex.letter, lex.Name and slices.IndexFunc at strings, walked by hand. -/
import Derived.Test.YthcmfjpheanphaaPc1
import Derived.Test.YthcmfjpheanphaaHregion
import Derived.Test.YthcmfjpheanphaaHbase
namespace Go.Proofs.Ythcmfjpheanphaa.Pr
set_option linter.unusedVariables false
set_option linter.unusedSimpArgs false
open Go.RowKit Go.Proofs.YthcmfjpheanphaaW.PrintWords

/-- the names, in order -/
def namesL : List ByteArray := [⟨#[104, 49]⟩, ⟨#[104, 50]⟩, ⟨#[104, 51]⟩, ⟨#[112]⟩, ⟨#[108]⟩, ⟨#[105]⟩, ⟨#[116]⟩, ⟨#[114]⟩, ⟨#[99]⟩, ⟨#[110]⟩, ⟨#[101]⟩, ⟨#[115]⟩, ⟨#[107]⟩]
set_option maxHeartbeats 1000000 in
theorem names_calls (w : World) : Calls Try.prog 85 #[] w fun e w' => e = .returned (.slice (some ⟨w.heap.size, 0, none⟩) 13 13) ∧ w' = w.alloc (.cells (namesL.map Value.string).toArray 9) := by
  go_enter Try.func85, Try.ntmps85
  go_wp2
  go_ret
  exact ⟨rfl, rfl⟩
theorem names_cell {w W : World} (h : Below (w.alloc (.cells (namesL.map Value.string).toArray 9)).heap.size (w.alloc (.cells (namesL.map Value.string).toArray 9)) W) (j : Nat) (x : ByteArray) (hx : namesL[j]? = some x) :
    W.cell? ⟨w.heap.size, j, none⟩ = some (.string x) := by
  rw [h.cell (p := ⟨w.heap.size, j, none⟩) (by simp)]
  rw [blk_cell (blk_new w (.cells (namesL.map Value.string).toArray 9)) j]
  simp [hx]
/-- a name's letter -/
def letP (n : ByteArray) : Int := bt n ((n.size : Int) - 1)
set_option maxHeartbeats 1000000 in
theorem letter_calls (n : ByteArray) (h : 0 < n.size) (hn : n.size ≤ 1000000) (w : World) : Calls Try.prog 88 #[.string n] w fun e w' => e = .returned (.int .u8 (letP n)) ∧ w = w' := by
  have h1 : (0 : Int) ≤ (n.size : Int) - 1 := by omega
  have h2 : (n.size : Int) - 1 < n.size := by omega
  have h3 : n.size - 1 < n.size := by omega
  have e1 : (n.size : Int) - 1 = ((n.size - 1 : Nat) : Int) := by omega
  have hg : ((n[n.size - 1].toNat : Nat) : Int) = letP n := by
    unfold letP
    rw [e1]
    exact bt_at n ((n.size - 1 : Nat) : Int) (by simpa using h3)
  have hix : ∀ W, (Instr.index 9 (.string n) (.int .i64 ((n.size : Int) - 1))).run Try.prog W = .ok (.int .u8 (letP n)) W := fun W => by
    rw [← hg, e1]
    go_simp
  generalize letP n = y at *
  clear hg e1
  go_enter Try.func88, Try.ntmps88
  go_wp2
  go_ret
  exact ⟨rfl, rfl⟩

/-- lex.Name's test of one name -/
theorem name1_calls (n : ByteArray) (h : 0 < n.size) (hn : n.size ≤ 1000000) (c : Int) (B : Nat) (W : World) (hB : B < W.heap.size) (hc : W.cell? ⟨B, 0, none⟩ = some (.int .u8 c)) :
    Calls Try.prog 87 #[.string n, .pointer (some ⟨B, 0, none⟩)] W fun e w' => e = .returned (.bool (letP n == c)) ∧ Below W.heap.size W w' := by
  have hcW : ∀ W', Below W.heap.size W W' → W'.cell? ⟨B, 0, none⟩ = some (.int .u8 c) := fun W' hb => (hb.cell (p := ⟨B, 0, none⟩) hB).trans hc
  have HC := Lib.hid hcW
  clear hcW hc
  have hl := letter_calls n h hn
  have HL := Lib.hid hl
  clear hl
  go_enter Try.func87, Try.ntmps87
  go_wp2_with fail
  refine Go.Det.region_all (fun W' => Below W.heap.size W W') (by kernel_rfl) (by kernel_rfl) (below_drew (Below.refl _ _)) ?_
  repeat (apply Go.Det.seqW_cons; focus (intro W' hS; replace hS : Below W.heap.size W W' := hS; have hcc := HC.out W' hS; go_wp2_with (go_at_call 88; (with_reducible refine (HL.out _).mono ?_); rintro e w1 ⟨rfl, rfl⟩); exact Go.Det.AtEnd.mk hS))
  refine Go.Det.seqW_nil ?_
  intro W' hS
  replace hS : Below W.heap.size W W' := hS
  simp only [Exit.then]
  go_wp2
  go_ret
  exact ⟨rfl, hS⟩

/-- where the first one lies of which p holds; -1 -/
def idxP (p : ByteArray → Bool) : List ByteArray → Int → Int
  | [], _ => -1
  | x :: xs, i => if p x then i else idxP p xs (i + 1)
/-- slices.IndexFunc at strings -/
theorem indexFunc_calls (g : Nat) (lb : Array Value) (eg : ∀ args w, (callFunc g args).run Try.prog w = .ok (.enter g args) w) (p : ByteArray → Bool) (xs : List ByteArray) (blk c : Nat) (w : World) (hx : xs.length ≤ 1000000)
    (hcell : ∀ W, Below w.heap.size w W → ∀ (j : Nat) x, xs[j]? = some x → W.cell? ⟨blk, j, none⟩ = some (.string x))
    (hg : ∀ x ∈ xs, ∀ W, Below w.heap.size w W → Calls Try.prog g (#[.string x] ++ lb) W fun e w' => e = .returned (.bool (p x)) ∧ Below W.heap.size W w') :
    Calls Try.prog 86 #[.slice (some ⟨blk, 0, none⟩) xs.length c, .func (.func g) #[] lb] w fun e w' => e = .returned (.int .i64 (idxP p xs 0)) ∧ Below w.heap.size w w' := by
  have HC := Lib.hid hcell
  have HG := Lib.hid hg
  clear hcell hg
  obtain ⟨n, hn⟩ : ∃ n, xs.length = n := ⟨_, rfl⟩
  rw [hn] at hx ⊢
  have HN := Lib.hid hn
  clear hn
  go_enter Try.func86, Try.ntmps86
  go_wp2
  go_loopw [8] (fun v wr => ∃ (k : Nat) (rest : List ByteArray), xs.drop k = rest ∧ Hid (idxP p xs 0 = idxP p rest k) ∧ v = .int .i64 k ∧ k ≤ n ∧ Below w.heap.size w wr) (fun v _ => n - (intOf v).toNat)
  case atStart => exact ⟨0, xs, rfl, Lib.hid rfl, rfl, by omega, Below.refl _ _⟩
  case round =>
    obtain ⟨k, rest, hr, H, rfl, hk, hB⟩ := hrel
    by_cases hlt : k < n
    · have hl2 : (k : Int) < (n : Int) := by omega
      obtain ⟨x, rest, rfl⟩ : ∃ x r, rest = x :: r := by
        cases rest with
        | nil =>
          have := congrArg List.length hr
          simp at this
          have := HN.out
          omega
        | cons x r => exact ⟨x, r, rfl⟩
      have hxk : xs[k]? = some x := by
        have := congrArg (fun l => l[0]?) hr
        simpa using this
      have hr' : xs.drop (k + 1) = rest := by
        have := congrArg List.tail hr
        simpa using this
      have HR := Lib.hid hr'
      have hcc := HC.out wr hB k x hxk
      have hcall := HG.out x (List.mem_of_getElem? hxk) wr hB
      clear hr hr' hxk
      cases hp : p x with
      | true =>
        rw [hp] at hcall
        have hi : idxP p xs 0 = k := by rw [H.out]; simp [idxP, hp]
        have HI := Lib.hid hi
        clear hi hp H
        go_wp2_with (go_at_fn g; refine hcall.mono ?_; rintro e w' ⟨rfl, hb'⟩)
        go_ret
        exact ⟨by rw [HI.out]; rfl, hB.trans (hb'.mono hB.size)⟩
      | false =>
        rw [hp] at hcall
        have hi : idxP p xs 0 = idxP p rest ((k + 1 : Nat) : Int) := by rw [H.out]; simp [idxP, hp]
        have HI := Lib.hid hi
        clear hi hp H
        go_wp2_with (go_at_fn g; refine hcall.mono ?_; rintro e w' ⟨rfl, hb'⟩)
        go_roundw
        case rel => exact ⟨k + 1, rest, HR.out, HI, by go_num, by omega, hB.trans (hb'.mono hB.size)⟩
        case measure => simp [intOf]; omega
    · have hk2 : ¬ (k : Int) < (n : Int) := by omega
      have hnil : rest = [] := by
        rw [← hr]; apply List.drop_eq_nil_of_le; have := HN.out; omega
      subst hnil
      have hi : idxP p xs 0 = -1 := H.out
      have HI := Lib.hid hi
      clear hi hr H
      go_wp2
      go_ret
      exact ⟨by rw [HI.out]; rfl, hB⟩
end Go.Proofs.Ythcmfjpheanphaa.Pr
