import Derived.Test.YthcmfjpheanphaaPr0
import Derived.BigRegion
import Derived.Lib.Hide
namespace Go.Proofs.Ythcmfjpheanphaa.Pr
open Go.RowKit Go.Proofs.YthcmfjpheanphaaW.PrintWords

theorem heap_new (w : World) (o : Obj) : (w.alloc o).heap[w.heap.size]? = some o := by
  show (w.heap.push o)[w.heap.size]? = some o
  simp
/-- One byte's bit. -/
def ofStep (g : List Int) (c : Int) : List Int := g.set (c / 64).toNat (bits .or .u64 (g.getD (c / 64).toNat 0) (IntKind.u64.wrap (2 ^ (c % 64).toNat)))
def ofL (g : List Int) (s : ByteArray) : Nat → List Int
  | 0 => g
  | k + 1 => ofStep (ofL g s k) (bt s k)
theorem ofL_length (g : List Int) (s : ByteArray) : ∀ k, (ofL g s k).length = g.length
  | 0 => rfl
  | k + 1 => by simp [ofL, ofStep, ofL_length g s k]
def u64s (g : List Int) : List Value := g.map (.int .u64)
def Arr4 (W : World) (B : Nat) (g : List Int) : Prop := W.heap[B]? = some (.cells (u64s g).toArray 77 (0, 0))
theorem Arr4.cell {W : World} {B : Nat} {g : List Int} (h : Arr4 W B g) {i : Nat} (hi : i < g.length) : W.cell? ⟨B, i, none⟩ = some (.int .u64 (g.getD i 0)) := by
  unfold Arr4 at h
  simp [World.cell?, h, u64s, hi]
theorem Arr4.frozen {W : World} {B : Nat} {g : List Int} (h : Arr4 W B g) (i : Nat) : W.frozen? ⟨B, i, none⟩ = false := by
  unfold Arr4 at h
  simp [World.frozen?, h]
theorem Arr4.set {W : World} {B : Nat} {g : List Int} (h : Arr4 W B g) (i : Nat) (x : Int) : Arr4 (W.setCell ⟨B, i, none⟩ (.int .u64 x)) B (g.set i x) := by
  unfold Arr4 at *
  have hb := (Array.getElem?_eq_some_iff.1 h)
  simp only [World.setCell, Array.getElem?_modify, if_pos, h]
  simp [u64s, List.map_set]
theorem Arr4.below {W W' : World} {B : Nat} {g : List Int} (h : Arr4 W B g) (hb : Below W.heap.size W W') : Arr4 W' B g := by
  unfold Arr4 at *
  rw [hb.block _ (Array.getElem?_eq_some_iff.1 h).1]; exact h

set_option maxHeartbeats 400000 in
theorem of_calls (s : ByteArray) (w : World) (hs : s.size ≤ 9223372036854775807) :
    Calls Try.prog 128 #[.string s] w fun e w' => e = .returned (.agg (u64s (ofL [0,0,0,0] s s.size)).toArray) ∧ Below w.heap.size w w' := by
  go_enter Try.func128, Try.ntmps128
  go_wp2
  go_loopw [7] (fun v wr => ∃ k : Nat, k ≤ s.size ∧ v = .int .i64 k ∧ Below w.heap.size w wr ∧ w.heap.size + 2 ≤ wr.heap.size ∧ Arr4 wr (w.heap.size + 1) (ofL [0,0,0,0] s k) ∧ Arr4 wr w.heap.size [0,0,0,0]) (fun v _ => s.size - (intOf v).toNat)
  case atStart =>
    refine ⟨0, Nat.zero_le _, rfl, ((Below.refl _ _).alloc (Nat.le_refl _) _).alloc (by simp) _, by simp, ?_, ?_⟩
    · have := heap_new (w.alloc (.cells #[.int .u64 0, .int .u64 0, .int .u64 0, .int .u64 0] 77)) (.cells #[.int .u64 0, .int .u64 0, .int .u64 0, .int .u64 0] 77)
      rw [World.size_alloc] at this
      exact this
    · exact (Below.heap_alloc _ _ _ (by simp)).trans (heap_new _ _)
  case round =>
    obtain ⟨k, hk, rfl, hB, hsz, hb, hr⟩ := hrel
    have hlen := ofL_length [0,0,0,0] s k
    by_cases hlt : k < s.size
    · obtain ⟨c, hc⟩ : ∃ c : Int, ((s[k].toNat : Nat) : Int) = c := ⟨_, rfl⟩
      have hc0 : 0 ≤ c ∧ c < 256 := by rw [← hc]; have := s[k].toNat_lt; omega
      have i0 : 0 ≤ c / 64 := by omega
      have i1 : c / 64 < 4 := by omega
      have hcell := hb.cell (i := (c / 64).toNat) (by rw [hlen]; simp; omega)
      have hfr := hb.frozen (c / 64).toNat
      have h63 : bits .and .u8 c 63 = c % 64 := u8_and63 c hc0.1 hc0.2
      have i2 : 0 ≤ c % 64 := by omega
      have i3 : c % 64 < 64 := by omega
      clear hlen
      go_wp2
      go_region
      go_wp2
      go_roundw
      case rel =>
        refine ⟨k + 1, by omega, by go_num, ?_, by simpa using hsz, ?_, ?_⟩
        · exact (hB.setCell (by simp) _).drew
        · have hs1 := hb.set (c / 64).toNat (bits BinOp.or IntKind.u64 ((ofL [0, 0, 0, 0] s k)[(c / 64).toNat]?.getD 0) (IntKind.u64.wrap (2 ^ (c % 64).toNat)))
          have e : ofL [0, 0, 0, 0] s (k + 1) = (ofL [0, 0, 0, 0] s k).set (c / 64).toNat (bits BinOp.or IntKind.u64 ((ofL [0, 0, 0, 0] s k)[(c / 64).toNat]?.getD 0) (IntKind.u64.wrap (2 ^ (c % 64).toNat))) := by
            have hbt : bt s k = c := by rw [← hc]; simp [bt, hlt]
            simp [ofL, ofStep, hbt]
          rw [e]; exact hs1
        · have := Below.heap_setCell wr ⟨w.heap.size + 1, (c / 64).toNat, none⟩ (.int .u64 (bits BinOp.or IntKind.u64 ((ofL [0, 0, 0, 0] s k)[(c / 64).toNat]?.getD 0) (IntKind.u64.wrap (2 ^ (c % 64).toNat)))) w.heap.size (by simp)
          exact this.trans hr
      case measure => simp [intOf]; omega
    · obtain rfl : k = s.size := by omega
      obtain ⟨a, b, c, d, hL⟩ : ∃ a b c d, ofL [0,0,0,0] s s.size = [a, b, c, d] := by
        match h : ofL [0,0,0,0] s s.size, hlen with
        | [a, b, c, d], _ => exact ⟨a, b, c, d, rfl⟩
      rw [hL] at hb
      have HL := Lib.hid hL
      clear hL hlen
      have c0 := hb.cell (i := 0) (by simp)
      have c1 := hb.cell (i := 1) (by simp)
      have c2 := hb.cell (i := 2) (by simp)
      have c3 := hb.cell (i := 3) (by simp)
      have r0 := hr.cell (i := 0) (by simp)
      have r1 := hr.cell (i := 1) (by simp)
      have r2 := hr.cell (i := 2) (by simp)
      have r3 := hr.cell (i := 3) (by simp)
      have q0 := hr.frozen 0
      have q1 := hr.frozen 1
      have q2 := hr.frozen 2
      have q3 := hr.frozen 3
      go_wp2
      refine bodyPost_ret (v := .agg #[.int .u64 a, .int .u64 b, .int .u64 c, .int .u64 d]) (by simp [results, Try.results128, go_sem, r0, r1, r2, r3]) rfl ⟨by rw [HL.out]; rfl, ?_⟩
      exact (((hB.setCell (by simp) _).setCell (by simp) _).setCell (by simp) _).setCell (by simp) _

/-- the classes' bits -/
def cLow : Int := 576460743713488896
def cUp : Int := 134217726
def cDig : Int := 287948901175001088
def cMark : Int := 10088330922161078272
def cSp : Int := 4294967296
def cNl : Int := 1024
theorem of_low : ofL [0,0,0,0] ⟨#[97, 98, 99, 100, 101, 102, 103, 104, 105, 106, 107, 108, 109, 110, 111, 112, 113, 114, 115, 116, 117, 118, 119, 120, 121, 122]⟩ 26 = [0, cLow, 0, 0] := by decide +kernel
theorem of_up : ofL [0,0,0,0] ⟨#[65, 66, 67, 68, 69, 70, 71, 72, 73, 74, 75, 76, 77, 78, 79, 80, 81, 82, 83, 84, 85, 86, 87, 88, 89, 90]⟩ 26 = [0, cUp, 0, 0] := by decide +kernel
theorem of_dig : ofL [0,0,0,0] ⟨#[48, 49, 50, 51, 52, 53, 54, 55, 56, 57]⟩ 10 = [cDig, 0, 0, 0] := by decide +kernel
theorem of_mark : ofL [0,0,0,0] ⟨#[46, 44, 59, 58, 33, 63, 39, 34, 45, 40, 41, 47]⟩ 12 = [cMark, 0, 0, 0] := by decide +kernel
theorem of_sp : ofL [0,0,0,0] ⟨#[32]⟩ 1 = [cSp, 0, 0, 0] := by decide +kernel
theorem of_nl : ofL [0,0,0,0] ⟨#[10]⟩ 1 = [cNl, 0, 0, 0] := by decide +kernel
theorem of_c {s : ByteArray} {n : Nat} {a b c d : Int} (hn : s.size = n) (h : ofL [0,0,0,0] s n = [a, b, c, d]) (w : World) (hs : s.size ≤ 9223372036854775807) :
    Calls Try.prog 128 #[.string s] w fun e w' => e = .returned (.agg #[.int .u64 a, .int .u64 b, .int .u64 c, .int .u64 d]) ∧ Below w.heap.size w w' := by
  subst hn
  have := of_calls s w hs
  rw [h] at this
  exact this

set_option maxHeartbeats 400000 in
theorem marks_calls (w : World) : Calls Try.prog 42 #[] w fun e w' => e = .returned (.string ⟨#[46, 44, 59, 58, 33, 63, 39, 34, 45, 40, 41, 47]⟩) ∧ w = w' := by
  go_enter Try.func42, Try.ntmps42
  go_wp2
  go_ret
  exact ⟨rfl, rfl⟩

/-- classes, as they stand in memory -/
def clsL : List Int := [0,0,0,0, 0,cLow,0,0, 0,cUp,0,0, cDig,0,0,0, cMark,0,0,0, cSp,0,0,0, cNl,0,0,0]
set_option maxHeartbeats 1000000 in
theorem classes_calls (w : World) :
    Calls Try.prog 77 #[] w fun e w' => e = .returned (.agg (u64s clsL).toArray) ∧ Below w.heap.size w w' := by
  go_enter Try.func77, Try.ntmps77
  go_wp2_with fail
  refine (of_c (by rfl) of_low _ (by decide)).mono ?_
  rintro e w1 ⟨rfl, hb1⟩
  go_wp2_with fail
  refine (of_c (by rfl) of_up _ (by decide)).mono ?_
  rintro e w2 ⟨rfl, hb2⟩
  go_wp2_with fail
  refine (of_c (by rfl) of_dig _ (by decide)).mono ?_
  rintro e w3 ⟨rfl, hb3⟩
  go_wp2_with fail
  refine (marks_calls _).mono ?_
  rintro e w4 ⟨rfl, rfl⟩
  go_wp2_with fail
  refine (of_c (by rfl) of_mark _ (by decide)).mono ?_
  rintro e w4 ⟨rfl, hb4⟩
  go_wp2_with fail
  refine (of_c (by rfl) of_sp _ (by decide)).mono ?_
  rintro e w5 ⟨rfl, hb5⟩
  go_wp2_with fail
  refine (of_c (by rfl) of_nl _ (by decide)).mono ?_
  rintro e w6 ⟨rfl, hb6⟩
  have hba := ((((hb1.trans (hb2.mono hb1.size)).trans (hb3.mono (hb1.trans (hb2.mono hb1.size)).size)).trans (hb4.mono ((hb1.trans (hb2.mono hb1.size)).trans (hb3.mono (hb1.trans (hb2.mono hb1.size)).size)).size)))
  have hbb := hba.trans (hb5.mono hba.size)
  have hbc := hbb.trans (hb6.mono hbb.size)
  have hg : w6.heap[w.heap.size]? = some (.cells (u64s (List.replicate 28 0)).toArray 78 (0, 0)) := (hbc.block w.heap.size (by simp)).trans (heap_new _ _)
  have hbz : Below w.heap.size w w6 := ((Below.refl _ w).alloc (Nat.le_refl _) _).trans (hbc.mono (by simp))
  clear hb1 hb2 hb3 hb4 hb5 hb6 hba hbb hbc
  have Hg := Lib.hid hg
  clear hg
  go_wp2_with (refine wpList_store_row rfl 78 (.tmp 0) (.tmp 8) rfl w.heap.size _ rfl rfl 78 _ Hg.out ?h1 ?h2 ?h3 ?h4)
  case h1 => kernel_rfl
  case h2 => rfl
  case h3 => simp [Value.oneCell']
  case h4 =>
    refine bodyPost_ret (results_cell_row rfl _ _ w.heap.size 78 (u64s clsL).toArray (0, 0) _ rfl ?_ Try.underlying78 rfl (by kernel_rfl)) rfl ⟨rfl, ?_⟩
    · exact setRow_heap _ _ _ _ _ _ Hg.out
    · exact hbz.trans ⟨rfl, rfl, rfl, by simp, fun k hk => by simp only [World.setRow, Array.getElem?_modify]; rw [if_neg (by omega)]⟩

/-- is a byte's bit set? -/
def hasB (g : List Int) (c : Int) : Bool := bits .and .u64 (g.getD (c / 64).toNat 0 / 2 ^ (c % 64).toNat) 1 == 1

set_option maxHeartbeats 1000000 in
theorem has_calls (a b c d x : Int) (w : World) (hx : 0 ≤ x) (hx1 : x < 256) :
    Calls Try.prog 78 #[.agg #[.int .u64 a, .int .u64 b, .int .u64 c, .int .u64 d], .int .u8 x] w fun e w' => e = .returned (.bool (hasB [a, b, c, d] x)) ∧ Below w.heap.size w w' := by
  have hz : Arr4 (w.alloc (.cells #[.int .u64 a, .int .u64 b, .int .u64 c, .int .u64 d] 77)) w.heap.size [a, b, c, d] := heap_new _ _
  have i0 : 0 ≤ x / 64 := by omega
  have i1 : x / 64 < 4 := by omega
  have hcell := hz.cell (i := (x / 64).toNat) (by simp; omega)
  have h63 : bits .and .u8 x 63 = x % 64 := u8_and63 x hx hx1
  have i2 : 0 ≤ x % 64 := by omega
  have i3 : x % 64 < 64 := by omega
  go_enter Try.func78, Try.ntmps78
  go_wp2
  go_ret
  exact ⟨by simp [hasB, List.getD_eq_getElem?_getD, List.getElem?_eq_getElem (show (x / 64).toNat < [a, b, c, d].length by simp; omega)], (Below.refl _ w).alloc (Nat.le_refl _) _⟩

def seg (j : Nat) : List Int := (clsL.drop (4 * j)).take 4
/-- the class, by the bits -/
def classB (c : Int) : Int := if hasB (seg 0) c then 0 else if hasB (seg 1) c then 1 else if hasB (seg 2) c then 2 else if hasB (seg 3) c then 3 else if hasB (seg 4) c then 4 else if hasB (seg 5) c then 5 else if hasB (seg 6) c then 6 else 0
def classP (c : Int) : Int := if 97 ≤ c ∧ c ≤ 122 then 1 else if 65 ≤ c ∧ c ≤ 90 then 2 else if 48 ≤ c ∧ c ≤ 57 then 3 else if c = 32 then 5 else if c = 10 then 6
  else if c ∈ [46, 44, 59, 58, 33, 63, 39, 34, 45, 40, 41, 47] then 4 else 0
theorem classB_fin : ∀ n : Fin 256, classB (n.val : Int) = classP (n.val : Int) := by decide +kernel
theorem classB_eq (c : Int) (h0 : 0 ≤ c) (h1 : c < 256) : classB c = classP c := by
  have := classB_fin ⟨c.toNat, by omega⟩
  simpa [Int.toNat_of_nonneg h0] using this

theorem has_seg (j : Nat) (hj : j < 7) (x : Int) (w : World) (hx : 0 ≤ x) (hx1 : x < 256) :
    Calls Try.prog 78 #[.agg (u64s (seg j)).toArray, .int .u8 x] w fun e w' => e = .returned (.bool (hasB (seg j) x)) ∧ Below w.heap.size w w' := by
  have hj' : j = 0 ∨ j = 1 ∨ j = 2 ∨ j = 3 ∨ j = 4 ∨ j = 5 ∨ j = 6 := by omega
  rcases hj' with rfl | rfl | rfl | rfl | rfl | rfl | rfl
  all_goals exact has_calls _ _ _ _ x w hx hx1

set_option maxRecDepth 100000 in
theorem idx_run0 (w : World) : (Instr.index 78 (.agg (u64s clsL).toArray) (.int .i64 (0 : Nat))).run Try.prog w = .ok (.agg (u64s (seg 0)).toArray) w := by kernel_rfl
set_option maxRecDepth 100000 in
theorem idx_run1 (w : World) : (Instr.index 78 (.agg (u64s clsL).toArray) (.int .i64 (1 : Nat))).run Try.prog w = .ok (.agg (u64s (seg 1)).toArray) w := by kernel_rfl
set_option maxRecDepth 100000 in
theorem idx_run2 (w : World) : (Instr.index 78 (.agg (u64s clsL).toArray) (.int .i64 (2 : Nat))).run Try.prog w = .ok (.agg (u64s (seg 2)).toArray) w := by kernel_rfl
set_option maxRecDepth 100000 in
theorem idx_run3 (w : World) : (Instr.index 78 (.agg (u64s clsL).toArray) (.int .i64 (3 : Nat))).run Try.prog w = .ok (.agg (u64s (seg 3)).toArray) w := by kernel_rfl
set_option maxRecDepth 100000 in
theorem idx_run4 (w : World) : (Instr.index 78 (.agg (u64s clsL).toArray) (.int .i64 (4 : Nat))).run Try.prog w = .ok (.agg (u64s (seg 4)).toArray) w := by kernel_rfl
set_option maxRecDepth 100000 in
theorem idx_run5 (w : World) : (Instr.index 78 (.agg (u64s clsL).toArray) (.int .i64 (5 : Nat))).run Try.prog w = .ok (.agg (u64s (seg 5)).toArray) w := by kernel_rfl
set_option maxRecDepth 100000 in
theorem idx_run6 (w : World) : (Instr.index 78 (.agg (u64s clsL).toArray) (.int .i64 (6 : Nat))).run Try.prog w = .ok (.agg (u64s (seg 6)).toArray) w := by kernel_rfl
theorem idx_run (j : Nat) (hj : j < 7) (w : World) : (Instr.index 78 (.agg (u64s clsL).toArray) (.int .i64 j)).run Try.prog w = .ok (.agg (u64s (seg j)).toArray) w := by
  have hj' : j = 0 ∨ j = 1 ∨ j = 2 ∨ j = 3 ∨ j = 4 ∨ j = 5 ∨ j = 6 := by omega
  rcases hj' with rfl | rfl | rfl | rfl | rfl | rfl | rfl
  · exact idx_run0 w
  · exact idx_run1 w
  · exact idx_run2 w
  · exact idx_run3 w
  · exact idx_run4 w
  · exact idx_run5 w
  · exact idx_run6 w
theorem seg_form (j : Nat) (hj : j < 7) : ∃ a b c d, seg j = [a, b, c, d] := by
  have hj' : j = 0 ∨ j = 1 ∨ j = 2 ∨ j = 3 ∨ j = 4 ∨ j = 5 ∨ j = 6 := by omega
  rcases hj' with rfl | rfl | rfl | rfl | rfl | rfl | rfl
  all_goals exact ⟨_, _, _, _, rfl⟩
theorem classB_at (x : Int) (k : Nat) (hk : k < 7) (h : hasB (seg k) x = true) (hno : ∀ j, j < k → hasB (seg j) x = false) : classB x = k := by
  have hj' : k = 0 ∨ k = 1 ∨ k = 2 ∨ k = 3 ∨ k = 4 ∨ k = 5 ∨ k = 6 := by omega
  unfold classB
  rcases hj' with rfl | rfl | rfl | rfl | rfl | rfl | rfl
  · rw [h]; rfl
  · rw [h, hno 0 (by omega)]; rfl
  · rw [h, hno 0 (by omega), hno 1 (by omega)]; rfl
  · rw [h, hno 0 (by omega), hno 1 (by omega), hno 2 (by omega)]; rfl
  · rw [h, hno 0 (by omega), hno 1 (by omega), hno 2 (by omega), hno 3 (by omega)]; rfl
  · rw [h, hno 0 (by omega), hno 1 (by omega), hno 2 (by omega), hno 3 (by omega), hno 4 (by omega)]; rfl
  · rw [h, hno 0 (by omega), hno 1 (by omega), hno 2 (by omega), hno 3 (by omega), hno 4 (by omega), hno 5 (by omega)]; rfl
theorem classB_no (x : Int) (hno : ∀ j, j < 7 → hasB (seg j) x = false) : classB x = 0 := by
  unfold classB
  rw [hno 0 (by omega), hno 1 (by omega), hno 2 (by omega), hno 3 (by omega), hno 4 (by omega), hno 5 (by omega), hno 6 (by omega)]; rfl

set_option maxHeartbeats 1000000 in
theorem class_calls (x : Int) (w : World) (hx : 0 ≤ x) (hx1 : x < 256) :
    Calls Try.prog 24 #[.int .u8 x] w fun e w' => e = .returned (.int .i64 (classB x)) ∧ Below w.heap.size w w' := by
  go_enter Try.func24, Try.ntmps24
  go_wp2_with (go_at_call 77; refine (classes_calls _).mono ?_; rintro e w1 ⟨rfl, hb1⟩)
  generalize hv : (Value.agg (u64s clsL).toArray) = V5
  have HV := Lib.hid hv
  clear hv
  go_loopw [6] (fun v wr => ∃ k : Nat, k ≤ 7 ∧ v = .int .i64 k ∧ Below w.heap.size w wr ∧ ∀ j, j < k → hasB (seg j) x = false) (fun v _ => 7 - (intOf v).toNat)
  case atStart => exact ⟨0, by omega, rfl, hb1, fun j hj => by omega⟩
  case round =>
    obtain ⟨k, hk, rfl, hB, hno⟩ := hrel
    have Hno := Lib.hid hno
    clear hno
    by_cases hlt : k < 7
    · have hix := fun w => idx_run k hlt w
      rw [HV.out] at hix
      have hlt2 : decide ((k : Int) < 7) = true := by simp; omega
      obtain ⟨a, b, c, d, hs⟩ := seg_form k hlt
      rw [hs] at hix
      have hix' : ∀ (w : World), Sem.run Try.prog (Instr.index 78 V5 (Value.int IntKind.i64 ↑k)) w = Result.ok (.agg #[.int .u64 a, .int .u64 b, .int .u64 c, .int .u64 d]) w := hix
      clear hix
      have HS := Lib.hid hs
      clear hs
      cases hh : hasB (seg k) x with
      | true =>
        have HH := Lib.hid hh
        clear hh
        have hc2 := fun w => has_calls a b c d x w hx hx1
        rw [← HS.out, HH.out] at hc2
        have HC2 := Lib.hid hc2
        clear hc2
        go_wp2_with (go_at_call 78; refine (HC2.out _).mono ?_; rintro e w2 ⟨rfl, hb2⟩)
        go_ret
        exact ⟨by rw [classB_at x k hlt HH.out Hno.out]; rfl, (hB.alloc hB.size _).trans (hb2.mono (by simp; exact Nat.le_succ_of_le hB.size))⟩
      | false =>
        have HH := Lib.hid hh
        clear hh
        have hc2 := fun w => has_calls a b c d x w hx hx1
        rw [← HS.out, HH.out] at hc2
        have HC2 := Lib.hid hc2
        clear hc2
        go_wp2_with (go_at_call 78; refine (HC2.out _).mono ?_; rintro e w2 ⟨rfl, hb2⟩)
        go_roundw
        case rel =>
          refine ⟨k + 1, by omega, by go_num, (hB.alloc hB.size _).trans (hb2.mono (by simp; exact Nat.le_succ_of_le hB.size)), fun j hj => ?_⟩
          rcases Nat.lt_or_ge j k with h | h
          · exact Hno.out j h
          · obtain rfl : j = k := by omega
            exact HH.out
        case measure => simp [intOf]; omega
    · have hlt2 : decide ((k : Int) < 7) = false := by simp; omega
      go_wp2
      go_ret
      obtain rfl : k = 7 := by omega
      exact ⟨by rw [classB_no x Hno.out]; rfl, hB⟩

/-- chars.Class -/
def chars_Class.f (a0 : Int) : Option Int := if 0 ≤ a0 ∧ a0 < 256 then some (classP a0) else none
theorem chars_Class.calls (a0 : Int) (r : Int) (w : World) (h : chars_Class.f a0 = some r) :
    Calls Try.prog 24 #[.int .u8 a0] w fun e w' => e = .returned (.int .i64 r) ∧ Below w.heap.size w w' := by
  unfold chars_Class.f at h
  split at h
  · rename_i hc
    obtain rfl := Option.some.inj h
    rw [← classB_eq a0 hc.1 hc.2]
    exact class_calls a0 w hc.1 hc.2
  · cases h
theorem chars_Class.some_ (a0 : Int) (h0 : 0 ≤ a0) (h1 : a0 < 256) : chars_Class.f a0 = some (classP a0) := if_pos ⟨h0, h1⟩
end Go.Proofs.Ythcmfjpheanphaa.Pr
