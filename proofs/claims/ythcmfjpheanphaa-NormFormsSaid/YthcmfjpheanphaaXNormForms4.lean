/- Texts of this seat, one behind the other. -/
import Derived.Maps.Views
import Derived.WideKeyPair
import Derived.Test.YthcmfjpheanphaaXNormForms3
set_option linter.unusedVariables false
set_option linter.unusedSimpArgs false
set_option maxHeartbeats 16000000
set_option maxRecDepth 100000
namespace Go.Proofs.Ythcmfjpheanphaa.Pr
open Go.RowKit Go.Proofs.YthcmfjpheanphaaW.PrintWords Go.Proofs.YthcmfjpheanphaaW.PrintLast Go.Proofs.YthcmfjpheanphaaW.PrintMore
attribute [local go_sem] zaX zaY zbG zbI zaV zaW zaZ zbA
attribute [local go_sem high] eqA27
def chars_Marks.f  : Option (ByteArray) := some (⟨#[46,44,59,58,33,63,39,34,45,40,41,47]⟩ : ByteArray)
def zkA : Nat → List (S27) → List (S27) → Int → Option (Bool)
 | 0,_,_,_ => none
 | k + 1,x0,x1,x5 => if x5 < (x0.length : Int) then (if 0 ≤ x5 then (if x5 < (x1.length : Int) then (if (!(((ztK x0 x5).f0) == ((ztK x1 x5).f0)) || (!((((ztK x0 x5).f1).toList) == (((ztK x1 x5).f1).toList)))) = true then (some false) else (zkA k x0 x1 (wrap64 (x5 + 1)))) else (none)) else (none)) else (some true)
def styluslaw01_same.f (k : Nat) (l0 : List (S27)) (l1 : List (S27)) : Option (Bool) := if (l0.length : Int) = (l1.length : Int) then (zkA k l0 l1 0) else (some false)
def chars_Lower.f (a0 : Int) : Option (Int) := (chars_Class.f a0).bind fun t103 => (if t103 = 2 then (some (Go.bits .or .u8 a0 32)) else (some a0))
def chars_Upper.f (a0 : Int) : Option (Int) := (chars_Class.f a0).bind fun t104 => (if t104 = 1 then (some (Go.bits .andNot .u8 a0 32)) else (some a0))
def styluslaw01_awake.f (k : Nat)  : Option (Bool) := (styluslaw01_runs.f (⟨#[97,98,49,46,50]⟩ : ByteArray)).bind fun bt105 => ((chars_Class.f 97).bind fun t109 => (if t109 = 1 then ((chars_Class.f 90).bind fun t110 => (if t110 = 2 then ((chars_Class.f 55).bind fun t111 => (if t111 = 3 then ((chars_Class.f 47).bind fun t112 => (if t112 = 4 then ((chars_Class.f 32).bind fun t113 => (if t113 = 5 then ((chars_Class.f 10).bind fun t114 => (if t114 = 6 then ((chars_Class.f 123).bind fun t115 => (if t115 = 0 then ((chars_Lower.f 81).bind fun t116 => (if t116 = 113 then ((chars_Upper.f 113).bind fun t117 => (if t117 = 81 then ((chars_Lower.f 63).bind fun t118 => (if t118 = 63 then ((chars_Case.f (⟨#[97,98]⟩ : ByteArray)).bind fun t119 => (if t119 = 1 then ((chars_Case.f (⟨#[65,98]⟩ : ByteArray)).bind fun t120 => (if t120 = 2 then ((chars_Case.f (⟨#[65]⟩ : ByteArray)).bind fun t121 => (if t121 = 2 then ((chars_Case.f (⟨#[65,66]⟩ : ByteArray)).bind fun t122 => (if t122 = 3 then ((chars_Case.f (⟨#[97,66]⟩ : ByteArray)).bind fun t123 => (if t123 = 4 then ((chars_Case.f (⟨#[97,49]⟩ : ByteArray)).bind fun t124 => (if t124 = 0 then ((chars_Case.f (⟨#[]⟩ : ByteArray)).bind fun t125 => (if t125 = 0 then (if bt105.2 = true then ((styluslaw01_same.f k bt105.1 (([(⟨0,(⟨#[97,98]⟩ : ByteArray)⟩ : S27),(⟨2,(⟨#[49]⟩ : ByteArray)⟩ : S27),(⟨3,(⟨#[46]⟩ : ByteArray)⟩ : S27),(⟨4,(⟨#[50]⟩ : ByteArray)⟩ : S27)] : List (S27)))).bind fun t129 => (some t129)) else (some false)) else (some false))) else (some false))) else (some false))) else (some false))) else (some false))) else (some false))) else (some false))) else (some false))) else (some false))) else (some false))) else (some false))) else (some false))) else (some false))) else (some false))) else (some false))) else (some false))) else (some false)))
def stylusref01_Marks.f  : Option (ByteArray) := some (⟨#[46,44,59,58,33,63,39,34,45,40,41,47]⟩ : ByteArray)
theorem stylusref01_Marks.calls  (r : ByteArray) (w : World) (h : stylusref01_Marks.f  = some r) :
  Calls Try.prog 43 #[] w fun e w' => e = .returned (.string r) ∧ Drawn0 w w' := by
 have H : (some (⟨#[46,44,59,58,33,63,39,34,45,40,41,47]⟩ : ByteArray)) = some r := h
 clear h
 obtain rfl := Option.some.inj H
 go_enter Try.func43,Try.ntmps43
 go_wp2
 go_ret
 exact ⟨by first | rfl | (simp;done) | (simp [*];done),by repeat (first | exact Drawn0.refl _ | apply zfO)⟩
end Go.Proofs.Ythcmfjpheanphaa.Pr
namespace Go.Proofs.Ythcmfjpheanphaa.Pr
open Go.RowKit Go.Proofs.YthcmfjpheanphaaW.PrintWords
theorem bsE {α β : Type} {a : α} {f : α → Option β} {r : Option β} (h : (some a).bind f = r) : ∃ y,y = a ∧ f y = r := ⟨a,rfl,h⟩
theorem zfA {w : World} {g : Nat} {t : TypeId} {a0 a1 a2 a3 : Value} (h : w.heap[g]? = some (.cells #[a0,a1,a2,a3] t (0,0))) : w.cell? ⟨g,0,none⟩ = some a0 ∧ w.cell? ⟨g,1,none⟩ = some a1 ∧ w.cell? ⟨g,2,none⟩ = some a2 ∧ w.cell? ⟨g,3,none⟩ = some a3 ∧ w.frozen? ⟨g,0,none⟩ = false ∧ w.frozen? ⟨g,1,none⟩ = false ∧ w.frozen? ⟨g,2,none⟩ = false ∧ w.frozen? ⟨g,3,none⟩ = false := ⟨(zaB h 0).trans rfl,(zaB h 1).trans rfl,(zaB h 2).trans rfl,(zaB h 3).trans rfl,zaK h 0,zaK h 1,zaK h 2,zaK h 3⟩
theorem zgU {w : World} {g : Nat} {t : TypeId} {a0 a1 a2 a3 a4 a5 : Value} (h : w.heap[g]? = some (.cells #[a0,a1,a2,a3,a4,a5] t (0,0))) : w.cell? ⟨g,0,none⟩ = some a0 ∧ w.cell? ⟨g,1,none⟩ = some a1 ∧ w.cell? ⟨g,2,none⟩ = some a2 ∧ w.cell? ⟨g,3,none⟩ = some a3 ∧ w.cell? ⟨g,4,none⟩ = some a4 ∧ w.cell? ⟨g,5,none⟩ = some a5 ∧ w.frozen? ⟨g,0,none⟩ = false ∧ w.frozen? ⟨g,1,none⟩ = false ∧ w.frozen? ⟨g,2,none⟩ = false ∧ w.frozen? ⟨g,3,none⟩ = false ∧ w.frozen? ⟨g,4,none⟩ = false ∧ w.frozen? ⟨g,5,none⟩ = false := ⟨(zaB h 0).trans rfl,(zaB h 1).trans rfl,(zaB h 2).trans rfl,(zaB h 3).trans rfl,(zaB h 4).trans rfl,(zaB h 5).trans rfl,zaK h 0,zaK h 1,zaK h 2,zaK h 3,zaK h 4,zaK h 5⟩
theorem qD {P : Prop} [Decidable P] (h : decide P = true := by first | (with_reducible assumption) | assumption) : P := of_decide_eq_true h
theorem qB {P : Prop} (h : P := by repeat (first | (with_reducible first | exact HB.out | apply zdZ | apply zaM | apply zaJ) | exact HB.out)) : P := h
theorem qG {Q P : Prop} (G : Aside0 Q) (h : Q → P := by intro g_;repeat (first | (with_reducible first | exact HB.out | apply zdZ | apply zaM | apply zaJ | refine zjC ?_ g_) | exact HB.out)) : P := h G.out
theorem qG2 {Q Q' P : Prop} (G : Aside0 Q) (G' : Aside0 Q') (h : Q → Q' → P := by intro g_ g1_;repeat (first | (with_reducible first | exact HB.out | apply zdZ | apply zaM | apply zaJ | refine zjC ?_ g_ | refine zjC ?_ g1_) | exact HB.out)) : P := h G.out G'.out
theorem qR {Q P : Prop} (H : Aside0 Q) (h : Q → P := by intro h_;(with_reducible repeat (first | apply Kd.R_alloc | apply Kd.R_drewN | apply Kd.R_drew));exact h_) : P := h H.out
theorem qRa {Q P : Prop} (H : Aside0 Q) (h : Q → P := by intro h_;(with_reducible repeat (first | apply Kd.R_alloc | apply Kd.R_drewN | apply Kd.R_drew));exact Kd.R_mono h_ (fun _ hk => hk.2)) : P := h H.out
theorem qRb {Q P : Prop} (H : Aside0 Q) (h : Q → P := by intro h_;(with_reducible repeat (first | apply Kd.R_alloc | apply Kd.R_drewN | apply Kd.R_drew));exact Kd.R_mono h_ (fun _ hk => trivial)) : P := h H.out
theorem qRc {Q P : Prop} (H : Aside0 Q) (h : Q → P := by intro h_;(with_reducible repeat (first | apply Kd.R_alloc | apply Kd.R_drewN | apply Kd.R_drew));exact Kd.R_mono h_ (fun _ hk => ⟨trivial,hk⟩)) : P := h H.out
theorem qM {P : Prop} (h : P := by (try simp only [List.map_toArray,List.map_cons,List.map_nil]);first | done | rfl | (simp only [List.length_drop,List.length_take];rfl)) : P := h
theorem qS {P : Prop} (h : P := by first | rfl | (simp;done) | (simp [*];done)) : P := h
theorem qE {P : Prop} (h : P := by first | rfl | (simp [zgH,zgI] <;> rfl) | (simp [*,zgH,zgI] <;> rfl)) : P := h
theorem qF {Q P : Prop} (H : Q) (h : Q → P := by intro h_;first | rfl | (simp [zgH,zgI] <;> rfl) | (simp only [← h_];first | rfl | (simp [zgH,zgI] <;> rfl)) | (simp [*,zgH,zgI] <;> rfl)) : P := h H
theorem qW {P : Prop} (h : P := by repeat (first | exact Drawn0.refl _ | apply zfO)) : P := h
theorem qN {P : Prop} (h : P := by first | exact Kd.R_nil _ _ _ _ _ | exact Kd.N_nil _ _ _ _ _ | exact Kd.V_nil _ _ _ _ _ | exact Kd.Q_nil _ _ _ _ _ | exact Kd.S_nil _ _ _ _ _) : P := h
theorem qC {Q P : Prop} (H : Q) (h : Q → P := by intro h_;repeat (first | exact h_ | (with_reducible refine Kd.C_alloc ?_ _) | (with_reducible refine Kd.C_drewN ?_ _) | (with_reducible refine Kd.C_drew ?_))) : P := h H
theorem qH {w W : World} {p : Addr} {v : Value} (B : Aside0 (Below w.heap.size w W)) (h : w.cell? p = some v) : W.cell? p = some v := (B.out.cell (World.block_lt_of_cell? w _ h)).trans h
section
variable {w : World} {g : Nat} {t : TypeId} {a0 a1 a2 a3 a4 a5 a6 : Value} (u : Value)
theorem put10 (h : w.heap[g]? = some (.cells #[a0] t (0,0))) : (w.setCell ⟨g,0,none⟩ u).heap[g]? = some (.cells #[u] t (0,0)) := zbX h 0 u rfl
theorem put20 (h : w.heap[g]? = some (.cells #[a0,a1] t (0,0))) : (w.setCell ⟨g,0,none⟩ u).heap[g]? = some (.cells #[u,a1] t (0,0)) := zbX h 0 u rfl
theorem put21 (h : w.heap[g]? = some (.cells #[a0,a1] t (0,0))) : (w.setCell ⟨g,1,none⟩ u).heap[g]? = some (.cells #[a0,u] t (0,0)) := zbX h 1 u rfl
theorem put30 (h : w.heap[g]? = some (.cells #[a0,a1,a2] t (0,0))) : (w.setCell ⟨g,0,none⟩ u).heap[g]? = some (.cells #[u,a1,a2] t (0,0)) := zbX h 0 u rfl
theorem put31 (h : w.heap[g]? = some (.cells #[a0,a1,a2] t (0,0))) : (w.setCell ⟨g,1,none⟩ u).heap[g]? = some (.cells #[a0,u,a2] t (0,0)) := zbX h 1 u rfl
theorem put32 (h : w.heap[g]? = some (.cells #[a0,a1,a2] t (0,0))) : (w.setCell ⟨g,2,none⟩ u).heap[g]? = some (.cells #[a0,a1,u] t (0,0)) := zbX h 2 u rfl
theorem put40 (h : w.heap[g]? = some (.cells #[a0,a1,a2,a3] t (0,0))) : (w.setCell ⟨g,0,none⟩ u).heap[g]? = some (.cells #[u,a1,a2,a3] t (0,0)) := zbX h 0 u rfl
theorem put41 (h : w.heap[g]? = some (.cells #[a0,a1,a2,a3] t (0,0))) : (w.setCell ⟨g,1,none⟩ u).heap[g]? = some (.cells #[a0,u,a2,a3] t (0,0)) := zbX h 1 u rfl
theorem put42 (h : w.heap[g]? = some (.cells #[a0,a1,a2,a3] t (0,0))) : (w.setCell ⟨g,2,none⟩ u).heap[g]? = some (.cells #[a0,a1,u,a3] t (0,0)) := zbX h 2 u rfl
theorem put43 (h : w.heap[g]? = some (.cells #[a0,a1,a2,a3] t (0,0))) : (w.setCell ⟨g,3,none⟩ u).heap[g]? = some (.cells #[a0,a1,a2,u] t (0,0)) := zbX h 3 u rfl
theorem put50 (h : w.heap[g]? = some (.cells #[a0,a1,a2,a3,a4] t (0,0))) : (w.setCell ⟨g,0,none⟩ u).heap[g]? = some (.cells #[u,a1,a2,a3,a4] t (0,0)) := zbX h 0 u rfl
theorem put51 (h : w.heap[g]? = some (.cells #[a0,a1,a2,a3,a4] t (0,0))) : (w.setCell ⟨g,1,none⟩ u).heap[g]? = some (.cells #[a0,u,a2,a3,a4] t (0,0)) := zbX h 1 u rfl
theorem put52 (h : w.heap[g]? = some (.cells #[a0,a1,a2,a3,a4] t (0,0))) : (w.setCell ⟨g,2,none⟩ u).heap[g]? = some (.cells #[a0,a1,u,a3,a4] t (0,0)) := zbX h 2 u rfl
theorem put53 (h : w.heap[g]? = some (.cells #[a0,a1,a2,a3,a4] t (0,0))) : (w.setCell ⟨g,3,none⟩ u).heap[g]? = some (.cells #[a0,a1,a2,u,a4] t (0,0)) := zbX h 3 u rfl
theorem put54 (h : w.heap[g]? = some (.cells #[a0,a1,a2,a3,a4] t (0,0))) : (w.setCell ⟨g,4,none⟩ u).heap[g]? = some (.cells #[a0,a1,a2,a3,u] t (0,0)) := zbX h 4 u rfl
theorem put60 (h : w.heap[g]? = some (.cells #[a0,a1,a2,a3,a4,a5] t (0,0))) : (w.setCell ⟨g,0,none⟩ u).heap[g]? = some (.cells #[u,a1,a2,a3,a4,a5] t (0,0)) := zbX h 0 u rfl
theorem put61 (h : w.heap[g]? = some (.cells #[a0,a1,a2,a3,a4,a5] t (0,0))) : (w.setCell ⟨g,1,none⟩ u).heap[g]? = some (.cells #[a0,u,a2,a3,a4,a5] t (0,0)) := zbX h 1 u rfl
theorem put62 (h : w.heap[g]? = some (.cells #[a0,a1,a2,a3,a4,a5] t (0,0))) : (w.setCell ⟨g,2,none⟩ u).heap[g]? = some (.cells #[a0,a1,u,a3,a4,a5] t (0,0)) := zbX h 2 u rfl
theorem put63 (h : w.heap[g]? = some (.cells #[a0,a1,a2,a3,a4,a5] t (0,0))) : (w.setCell ⟨g,3,none⟩ u).heap[g]? = some (.cells #[a0,a1,a2,u,a4,a5] t (0,0)) := zbX h 3 u rfl
theorem put64 (h : w.heap[g]? = some (.cells #[a0,a1,a2,a3,a4,a5] t (0,0))) : (w.setCell ⟨g,4,none⟩ u).heap[g]? = some (.cells #[a0,a1,a2,a3,u,a5] t (0,0)) := zbX h 4 u rfl
theorem put65 (h : w.heap[g]? = some (.cells #[a0,a1,a2,a3,a4,a5] t (0,0))) : (w.setCell ⟨g,5,none⟩ u).heap[g]? = some (.cells #[a0,a1,a2,a3,a4,u] t (0,0)) := zbX h 5 u rfl
theorem put70 (h : w.heap[g]? = some (.cells #[a0,a1,a2,a3,a4,a5,a6] t (0,0))) : (w.setCell ⟨g,0,none⟩ u).heap[g]? = some (.cells #[u,a1,a2,a3,a4,a5,a6] t (0,0)) := zbX h 0 u rfl
theorem put71 (h : w.heap[g]? = some (.cells #[a0,a1,a2,a3,a4,a5,a6] t (0,0))) : (w.setCell ⟨g,1,none⟩ u).heap[g]? = some (.cells #[a0,u,a2,a3,a4,a5,a6] t (0,0)) := zbX h 1 u rfl
theorem put72 (h : w.heap[g]? = some (.cells #[a0,a1,a2,a3,a4,a5,a6] t (0,0))) : (w.setCell ⟨g,2,none⟩ u).heap[g]? = some (.cells #[a0,a1,u,a3,a4,a5,a6] t (0,0)) := zbX h 2 u rfl
theorem put73 (h : w.heap[g]? = some (.cells #[a0,a1,a2,a3,a4,a5,a6] t (0,0))) : (w.setCell ⟨g,3,none⟩ u).heap[g]? = some (.cells #[a0,a1,a2,u,a4,a5,a6] t (0,0)) := zbX h 3 u rfl
theorem put74 (h : w.heap[g]? = some (.cells #[a0,a1,a2,a3,a4,a5,a6] t (0,0))) : (w.setCell ⟨g,4,none⟩ u).heap[g]? = some (.cells #[a0,a1,a2,a3,u,a5,a6] t (0,0)) := zbX h 4 u rfl
theorem put75 (h : w.heap[g]? = some (.cells #[a0,a1,a2,a3,a4,a5,a6] t (0,0))) : (w.setCell ⟨g,5,none⟩ u).heap[g]? = some (.cells #[a0,a1,a2,a3,a4,u,a6] t (0,0)) := zbX h 5 u rfl
theorem put76 (h : w.heap[g]? = some (.cells #[a0,a1,a2,a3,a4,a5,a6] t (0,0))) : (w.setCell ⟨g,6,none⟩ u).heap[g]? = some (.cells #[a0,a1,a2,a3,a4,a5,u] t (0,0)) := zbX h 6 u rfl
end
theorem qK {Q P : Prop} (H : Aside0 Q) (h : Q → P := by intro h_;(with_reducible repeat (first | refine yeH ?_ _ | refine zoK ?_ | refine zcE ?_ _ | apply put10 | apply put20 | apply put21 | apply put30 | apply put31 | apply put32 | apply put40 | apply put41 | apply put42 | apply put43 | apply put50 | apply put51 | apply put52 | apply put53 | apply put54 | apply put60 | apply put61 | apply put62 | apply put63 | apply put64 | apply put65 | apply put70 | apply put71 | apply put72 | apply put73 | apply put74 | apply put75 | apply put76));exact h_) : P := h H.out
section
variable {α : Type} {c : Prop} [Decidable c] {a b : Option α} {r : Option α} {s : α}
theorem spG (h : (if c then a else none) = some s) : c ∧ a = some s := by by_cases x : c;exact ⟨x,(if_pos x).symm.trans h⟩;exact absurd ((if_neg x).symm.trans h) (by simp)
theorem spN (h : (if c then a else none) = some s) : decide c = true ∧ a = some s := ⟨decide_eq_true (spG h).1,(spG h).2⟩
theorem spP (h : (if c then a else b) = r) : (c ∧ a = r) ∨ (¬ c ∧ b = r) := by by_cases x : c;exact .inl ⟨x,(if_pos x).symm.trans h⟩;exact .inr ⟨x,(if_neg x).symm.trans h⟩
theorem spD (h : (if c then a else b) = r) : (decide c = true ∧ a = r) ∨ (decide c = false ∧ b = r) := (spP h).imp (fun x => ⟨decide_eq_true x.1,x.2⟩) (fun x => ⟨decide_eq_false x.1,x.2⟩)
variable {m n : Int}
theorem spDg (h : (if m > n then a else b) = r) : (decide (n < m) = true ∧ a = r) ∨ (decide (n < m) = false ∧ b = r) := spD h
theorem spDe (h : (if m ≥ n then a else b) = r) : (decide (n ≤ m) = true ∧ a = r) ∨ (decide (n ≤ m) = false ∧ b = r) := spD h
variable {β : Type} [BEq β] [LawfulBEq β] {x y : β} [Decidable (x = y)]
theorem spE (h : (if x = y then a else b) = r) : ((x == y) = true ∧ (x != y) = false ∧ a = r) ∨ ((x == y) = false ∧ (x != y) = true ∧ b = r) := (spP h).imp (fun e => ⟨beq_iff_eq.mpr e.1,bne_eq_false_iff_eq.mpr e.1,e.2⟩) (fun e => ⟨beq_eq_false_iff_ne.mpr e.1,bne_iff_ne.mpr e.1,e.2⟩)
end
theorem spL {α : Type} {c : Prop} [Decidable c] {a : Option α} {s : α} (h : (if c then a else none) = some s) : Aside0 c ∧ a = some s := ⟨⟨(spG h).1⟩,(spG h).2⟩
theorem bsA {α β : Type} {a : α} {f : α → Option β} {r : Option β} (h : (some a).bind f = r) : ∃ y,Aside0 (y = a) ∧ f y = r := ⟨a,⟨rfl⟩,h⟩
theorem bdA {α β : Type} {x : Option α} {f : α → Option β} {s : β} (h : x.bind f = some s) : ∃ y,Aside0 (x = some y) ∧ f y = some s := by obtain ⟨y,a,b⟩ := Option.bind_eq_some_iff.mp h;exact ⟨y,⟨a⟩,b⟩
theorem nft : ¬ (false = true) := by decide
theorem a1 {P0 : Prop} (h0 : P0) : Aside0 P0 := ⟨h0⟩
theorem a2 {P0 P1 : Prop} (h0 : P0) (h1 : P1) : Aside0 P0 ∧ Aside0 P1 := ⟨⟨h0⟩,⟨h1⟩⟩
theorem a3 {P0 P1 P2 : Prop} (h0 : P0) (h1 : P1) (h2 : P2) : Aside0 P0 ∧ Aside0 P1 ∧ Aside0 P2 := ⟨⟨h0⟩,⟨h1⟩,⟨h2⟩⟩
theorem a4 {P0 P1 P2 P3 : Prop} (h0 : P0) (h1 : P1) (h2 : P2) (h3 : P3) : Aside0 P0 ∧ Aside0 P1 ∧ Aside0 P2 ∧ Aside0 P3 := ⟨⟨h0⟩,⟨h1⟩,⟨h2⟩,⟨h3⟩⟩
theorem a5 {P0 P1 P2 P3 P4 : Prop} (h0 : P0) (h1 : P1) (h2 : P2) (h3 : P3) (h4 : P4) : Aside0 P0 ∧ Aside0 P1 ∧ Aside0 P2 ∧ Aside0 P3 ∧ Aside0 P4 := ⟨⟨h0⟩,⟨h1⟩,⟨h2⟩,⟨h3⟩,⟨h4⟩⟩
theorem a6 {P0 P1 P2 P3 P4 P5 : Prop} (h0 : P0) (h1 : P1) (h2 : P2) (h3 : P3) (h4 : P4) (h5 : P5) : Aside0 P0 ∧ Aside0 P1 ∧ Aside0 P2 ∧ Aside0 P3 ∧ Aside0 P4 ∧ Aside0 P5 := ⟨⟨h0⟩,⟨h1⟩,⟨h2⟩,⟨h3⟩,⟨h4⟩,⟨h5⟩⟩
theorem qx0 {α : Type} {d : Kd α} {e : Nat} {w : World} {base g : Nat} {ok : Nat → Prop} {v : Value} {xs : List α} (h : d.R e w base (fun k => ok k ∧ k ≠ g) v xs) : d.R e w base (fun _ => True) v xs := Kd.R_mono h (fun _ _ => trivial)
theorem qx1 {α : Type} {d : Kd α} {e : Nat} {w : World} {base g j : Nat} {u : Value} {ok : Nat → Prop} {v : Value} {xs : List α} (h : d.R e w base (fun k => ok k ∧ k ≠ g) v xs) : d.R e (w.setCell ⟨g,j,none⟩ u) base (fun k => ok k ∧ k ≠ g) v xs := Kd.R_far h (fun _ hk => hk.2) u
theorem qX {Q B P : Prop} (H : Aside0 Q) (K : Aside0 B) (h : Q → B → P := by intro h_ b_;(with_reducible repeat (first | apply Kd.R_alloc | apply Kd.R_drewN | apply Kd.R_drew));apply qx0;(with_reducible repeat (first | apply qx1 | apply Kd.R_alloc | apply Kd.R_drewN | apply Kd.R_drew));exact Kd.R_types h_ b_ (by decide)) : P := h H.out K.out
theorem bT47 {w : World} {A : Option Addr} {n : Nat} {xs : List S47} (h : Kd.C k47 w A n xs) (i : Int) (h0 : decide (0 ≤ i) = true := by first | (with_reducible assumption) | assumption) (h1 : decide (i < n) = true := by first | (with_reducible assumption) | assumption) : ∃ ad,A = some ad ∧ (0 ≤ i) = True ∧ (i < n) = True ∧ w.cell? (ad.add (i.toNat * 4)) = some (.int .i64 (zaI xs i).f0) ∧ w.cell? ⟨(ad.add (i.toNat * 4)).block,(ad.add (i.toNat * 4)).off + 1,none⟩ = some (.int .u8 (zaI xs i).f1) ∧ w.cell? ⟨(ad.add (i.toNat * 4)).block,(ad.add (i.toNat * 4)).off + 2,none⟩ = some (.string (zaI xs i).f2) ∧ w.cell? ⟨(ad.add (i.toNat * 4)).block,(ad.add (i.toNat * 4)).off + 3,none⟩ = some (.int .i64 (zaI xs i).f3) := by
 have p := of_decide_eq_true h0;have q := of_decide_eq_true h1
 obtain ⟨ad,e,h⟩ := zpO h i p q
 exact ⟨ad,e,eq_true p,eq_true q,h⟩
theorem bT56 {w : World} {A : Option Addr} {n : Nat} {xs : List S56} (h : Kd.C k56 w A n xs) (i : Int) (h0 : decide (0 ≤ i) = true := by first | (with_reducible assumption) | assumption) (h1 : decide (i < n) = true := by first | (with_reducible assumption) | assumption) : ∃ ad,A = some ad ∧ (0 ≤ i) = True ∧ (i < n) = True ∧ w.cell? (ad.add (i.toNat * 4)) = some (.int .u8 (zaA xs i).f0) ∧ w.cell? ⟨(ad.add (i.toNat * 4)).block,(ad.add (i.toNat * 4)).off + 1,none⟩ = some (.string (zaA xs i).f1) ∧ w.cell? ⟨(ad.add (i.toNat * 4)).block,(ad.add (i.toNat * 4)).off + 2,none⟩ = some (.int .i64 (zaA xs i).f2) ∧ w.cell? ⟨(ad.add (i.toNat * 4)).block,(ad.add (i.toNat * 4)).off + 3,none⟩ = some (.int .i64 (zaA xs i).f3) := by
 have p := of_decide_eq_true h0;have q := of_decide_eq_true h1
 obtain ⟨ad,e,h⟩ := zeN h i p q
 exact ⟨ad,e,eq_true p,eq_true q,h⟩
theorem aT56 {w W : World} {A : Option Addr} {n : Nat} {xs : List S56} (h : Aside0 (Kd.C k56 w A n xs)) (B : Aside0 (Below w.heap.size w W)) (i : Int) (h0 : decide (0 ≤ i) = true := by first | (with_reducible assumption) | assumption) (h1 : decide (i < n) = true := by first | (with_reducible assumption) | assumption) : ∃ ad,A = some ad ∧ (0 ≤ i) = True ∧ (i < n) = True ∧ W.cell? (ad.add (i.toNat * 4)) = some (.int .u8 (zaA xs i).f0) ∧ W.cell? ⟨(ad.add (i.toNat * 4)).block,(ad.add (i.toNat * 4)).off + 1,none⟩ = some (.string (zaA xs i).f1) ∧ W.cell? ⟨(ad.add (i.toNat * 4)).block,(ad.add (i.toNat * 4)).off + 2,none⟩ = some (.int .i64 (zaA xs i).f2) ∧ W.cell? ⟨(ad.add (i.toNat * 4)).block,(ad.add (i.toNat * 4)).off + 3,none⟩ = some (.int .i64 (zaA xs i).f3) := by
 have p := of_decide_eq_true h0;have q := of_decide_eq_true h1
 obtain ⟨ad,e,x0,x1,x2,x3⟩ := zeN h.out i p q
 exact ⟨ad,e,eq_true p,eq_true q,qH B x0,qH B x1,qH B x2,qH B x3⟩
theorem zlR {w : World} {A : Option Addr} {n : Nat} {xs : List S159} (h : Kd.C k159 w A n xs) (i : Int) (h0 : decide (0 ≤ i) = true := by first | (with_reducible assumption) | assumption) (h1 : decide (i < n) = true := by first | (with_reducible assumption) | assumption) : ∃ ad,A = some ad ∧ (0 ≤ i) = True ∧ (i < n) = True ∧ w.cell? (ad.add (i.toNat * 6)) = some (.int .u8 (zaC xs i).f0) ∧ w.cell? ⟨(ad.add (i.toNat * 6)).block,(ad.add (i.toNat * 6)).off + 1,none⟩ = some (.string (zaC xs i).f1) ∧ w.cell? ⟨(ad.add (i.toNat * 6)).block,(ad.add (i.toNat * 6)).off + 2,none⟩ = some (.int .i64 (zaC xs i).f2) ∧ w.cell? ⟨(ad.add (i.toNat * 6)).block,(ad.add (i.toNat * 6)).off + 3,none⟩ = some (.int .i64 (zaC xs i).f3) ∧ w.cell? ⟨(ad.add (i.toNat * 6)).block,(ad.add (i.toNat * 6)).off + 4,none⟩ = some (.int .i64 (zaC xs i).f4) ∧ w.cell? ⟨(ad.add (i.toNat * 6)).block,(ad.add (i.toNat * 6)).off + 5,none⟩ = some (.string (zaC xs i).f5) := by
 have p := of_decide_eq_true h0;have q := of_decide_eq_true h1
 obtain ⟨ad,e,h⟩ := znZ h i p q
 exact ⟨ad,e,eq_true p,eq_true q,h⟩
theorem bT184 {w : World} {A : Option Addr} {n : Nat} {xs : List S184} (h : Kd.C k184 w A n xs) (i : Int) (h0 : decide (0 ≤ i) = true := by first | (with_reducible assumption) | assumption) (h1 : decide (i < n) = true := by first | (with_reducible assumption) | assumption) : ∃ ad,A = some ad ∧ (0 ≤ i) = True ∧ (i < n) = True ∧ w.cell? (ad.add (i.toNat * 3)) = some (.int .u8 (zaQ xs i).f0) ∧ w.cell? ⟨(ad.add (i.toNat * 3)).block,(ad.add (i.toNat * 3)).off + 1,none⟩ = some (.int .i64 (zaQ xs i).f1) ∧ w.cell? ⟨(ad.add (i.toNat * 3)).block,(ad.add (i.toNat * 3)).off + 2,none⟩ = some (.int .i64 (zaQ xs i).f2) := by
 have p := of_decide_eq_true h0;have q := of_decide_eq_true h1
 obtain ⟨ad,e,h⟩ := ybR h i p q
 exact ⟨ad,e,eq_true p,eq_true q,h⟩
theorem zrG {w W : World} {A : Option Addr} {n : Nat} {xs : List S184} (h : Aside0 (Kd.C k184 w A n xs)) (B : Aside0 (Below w.heap.size w W)) (i : Int) (h0 : decide (0 ≤ i) = true := by first | (with_reducible assumption) | assumption) (h1 : decide (i < n) = true := by first | (with_reducible assumption) | assumption) : ∃ ad,A = some ad ∧ (0 ≤ i) = True ∧ (i < n) = True ∧ W.cell? (ad.add (i.toNat * 3)) = some (.int .u8 (zaQ xs i).f0) ∧ W.cell? ⟨(ad.add (i.toNat * 3)).block,(ad.add (i.toNat * 3)).off + 1,none⟩ = some (.int .i64 (zaQ xs i).f1) ∧ W.cell? ⟨(ad.add (i.toNat * 3)).block,(ad.add (i.toNat * 3)).off + 2,none⟩ = some (.int .i64 (zaQ xs i).f2) := by
 have p := of_decide_eq_true h0;have q := of_decide_eq_true h1
 obtain ⟨ad,e,x0,x1,x2⟩ := ybR h.out i p q
 exact ⟨ad,e,eq_true p,eq_true q,qH B x0,qH B x1,qH B x2⟩
end Go.Proofs.Ythcmfjpheanphaa.Pr
namespace Go.Proofs.Ythcmfjpheanphaa.Pr
open Go.RowKit Go.Proofs.YthcmfjpheanphaaW.PrintWords Go.Proofs.YthcmfjpheanphaaW.PrintLast Go.Proofs.YthcmfjpheanphaaW.PrintMore
attribute [local go_sem] zaX zaY zbG zbI zaV zaW zaZ zbA
mutual
def zbY : Nat → Int → Bool → Option (Int)
 | 0,_,_ => none
 | k + 1,x0,x10 => if x10 = true then (some 1) else (if x0 ≥ 65 then (zbZ k x0 (decide (x0 ≤ 90))) else (zbZ k x0 false))
def zbZ : Nat → Int → Bool → Option (Int)
 | 0,_,_ => none
 | k + 1,x0,x16 => if x16 = true then (some 2) else (if x0 ≥ 48 then (zcA k x0 (decide (x0 ≤ 57))) else (zcA k x0 false))
def zcA : Nat → Int → Bool → Option (Int)
 | 0,_,_ => none
 | k + 1,x0,x22 => if x22 = true then (some 3) else (if x0 = 32 then (some 5) else (if x0 = 10 then (some 6) else ((stylusref01_Marks.f).bind fun t130 => (zcB k x0 t130 0))))
def zcB : Nat → Int → ByteArray → Int → Option (Int)
 | 0,_,_,_ => none
 | k + 1,x0,x3,x4 => if x4 < (x3.size : Int) then (if 0 ≤ x4 then (if (bt x3 x4) = x0 then (some 4) else (zcB k x0 x3 (wrap64 (x4 + 1)))) else (none)) else (some 0)
end
def stylusref01_Class.f (k : Nat) (a0 : Int) : Option (Int) := if a0 ≥ 97 then (zbY k a0 (decide (a0 ≤ 122))) else (zbY k a0 false)
theorem zhW : ∀ k,(∀ y0 y1,LeO (zbY k y0 y1) (zbY (k + 1) y0 y1)) ∧ (∀ y0 y1,LeO (zbZ k y0 y1) (zbZ (k + 1) y0 y1)) ∧ (∀ y0 y1,LeO (zcA k y0 y1) (zcA (k + 1) y0 y1)) ∧ (∀ y0 y1 y2,LeO (zcB k y0 y1 y2) (zcB (k + 1) y0 y1 y2))
 | 0 => ⟨fun _ _ r h => by simp [zbY] at h,fun _ _ r h => by simp [zbZ] at h,fun _ _ r h => by simp [zcA] at h,fun _ _ _ r h => by simp [zcB] at h⟩
 | k + 1 => by
  obtain ⟨ih0,ih1,ih2,ih3⟩ := zhW k
  refine ⟨?_,?_,?_,?_⟩
  ·intro y0 y1
   unfold zbY
   exact qm
  ·intro y0 y1
   unfold zbZ
   exact qm
  ·intro y0 y1
   unfold zcA
   exact qm
  intro y0 y1 y2
  unfold zcB
  exact qm
theorem stylusref01_Class.mono : ∀ a0 k,LeO (stylusref01_Class.f k a0) (stylusref01_Class.f (k + 1) a0) := by
 intro a0 k
 obtain ⟨ih0,ih1,ih2,ih3⟩ := zhW k
 unfold stylusref01_Class.f
 repeat' first
   | (with_reducible exact ih0 _ _)
   | (with_reducible exact ih1 _ _)
   | (with_reducible exact ih2 _ _)
   | (with_reducible exact ih3 _ _ _)
   | (with_reducible exact LeO.refl _)
   | (with_reducible exact LeO.none _)
   | (with_reducible refine zmB ?_ ?_)
   | (with_reducible refine LeO.bind ?_ (fun _ => ?_))
   | exact ih0 _ _
   | exact ih1 _ _
   | exact ih2 _ _
   | exact ih3 _ _ _
   | exact LeO.none _
   | refine zmB ?_ ?_
   | refine LeO.bind ?_ (fun _ => ?_)
theorem stylusref01_Class.calls (k : Nat) (a0 : Int) (r : Int) (w : World) (h : stylusref01_Class.f k a0 = some r) :
  Calls Try.prog 32 #[.int .u8 a0] w fun e w' => e = .returned (.int .i64 r) ∧ Drawn0 w w' := by
 have H : (if a0 ≥ 97 then (zbY k a0 (decide (a0 ≤ 122))) else (zbY k a0 false)) = some r := h
 clear h
 have HC2 := Aside0.mk H
 clear H
 go_enter Try.func32,Try.ntmps32
 go_upto_region 1 with (fail)
 go_cut [10] (fun v10 wc => ∃ (kq : Nat) (x10_1 : Bool),v10 = .bool x10_1 ∧ Aside0 (zbY kq a0 x10_1 = some r) ∧ Aside0 (kq ≤ k) ∧ Drawn0 w wc)
 case first =>
  have H := HC2.out
  clear HC2
  obtain ⟨c3b0,H⟩ | ⟨c3b0,H⟩ := spDe H
  ·(first | rw [c3b0] | (simp only [zaO,zaR];rw [c3b0]) | skip)
   have H' := Aside0.mk H
   clear H
   go_wp2
   go_meet
   case rel => exact ⟨_,(decide (a0 ≤ 122)),qS,H',⟨by first | omega | exact Nat.le_refl _⟩,qW⟩
  (first | rw [c3b0] | (simp only [zaO,zaR];rw [c3b0]) | skip)
  have H' := Aside0.mk H
  clear H
  go_wp2
  go_meet
  case rel => exact ⟨_,(false),qS,H',⟨by first | omega | exact Nat.le_refl _⟩,qW⟩
 clear HC2
 obtain ⟨kq,x10_1,rfl,HA,HJ1,⟨mc1,rfl⟩⟩ := hcut
 cases kq with
 | zero => exact absurd HA.out (by simp [zbY])
 | succ kj1 =>
 have H := HA.out
 clear HA
 simp only [zbY] at H
 by_cases c4 : x10_1 = true
 ·subst c4
  have H1 : (some 1) = some r := by rw [if_pos rfl] at H;exact H
  clear H
  have H := H1
  clear H1
  obtain rfl := Option.some.inj H
  go_wp2
  go_ret
  exact ⟨qS,qW⟩
 replace c4 := Bool.eq_false_iff.mpr c4
 subst c4
 have H1 : (if a0 ≥ 65 then (zbZ kj1 a0 (decide (a0 ≤ 90))) else (zbZ kj1 a0 false)) = some r := by rw [if_neg nft] at H;exact H
 clear H
 have H := H1
 clear H1
 have HC5 := Aside0.mk H
 clear H
 go_upto_region 3 with (fail)
 go_cut [16] (fun v16 wc => ∃ (kq : Nat) (x16_4 : Bool),v16 = .bool x16_4 ∧ Aside0 (zbZ kq a0 x16_4 = some r) ∧ Aside0 (kq ≤ kj1) ∧ Drawn0 w wc)
 case first =>
  have H := HC5.out
  clear HC5
  obtain ⟨c6b0,H⟩ | ⟨c6b0,H⟩ := spDe H
  ·(first | rw [c6b0] | (simp only [zaO,zaR];rw [c6b0]) | skip)
   have H' := Aside0.mk H
   clear H
   go_wp2
   go_meet
   case rel => exact ⟨_,(decide (a0 ≤ 90)),qS,H',⟨by have := HJ1.out;first | omega | exact Nat.le_refl _⟩,qW⟩
  (first | rw [c6b0] | (simp only [zaO,zaR];rw [c6b0]) | skip)
  have H' := Aside0.mk H
  clear H
  go_wp2
  go_meet
  case rel => exact ⟨_,(false),qS,H',⟨by have := HJ1.out;first | omega | exact Nat.le_refl _⟩,qW⟩
 clear HC5
 obtain ⟨kq,x16_4,rfl,HA,HJ4,⟨mc4,rfl⟩⟩ := hcut
 cases kq with
 | zero => exact absurd HA.out (by simp [zbZ])
 | succ kj4 =>
 have H := HA.out
 clear HA
 simp only [zbZ] at H
 by_cases c7 : x16_4 = true
 ·subst c7
  have H1 : (some 2) = some r := by rw [if_pos rfl] at H;exact H
  clear H
  have H := H1
  clear H1
  obtain rfl := Option.some.inj H
  go_wp2
  go_ret
  exact ⟨qS,qW⟩
 replace c7 := Bool.eq_false_iff.mpr c7
 subst c7
 have H1 : (if a0 ≥ 48 then (zcA kj4 a0 (decide (a0 ≤ 57))) else (zcA kj4 a0 false)) = some r := by rw [if_neg nft] at H;exact H
 clear H
 have H := H1
 clear H1
 have HC8 := Aside0.mk H
 clear H
 go_upto_region 5 with (fail)
 go_cut [22] (fun v22 wc => ∃ (kq : Nat) (x22_7 : Bool),v22 = .bool x22_7 ∧ Aside0 (zcA kq a0 x22_7 = some r) ∧ Aside0 (kq ≤ kj4) ∧ Drawn0 w wc)
 case first =>
  have H := HC8.out
  clear HC8
  obtain ⟨c9b0,H⟩ | ⟨c9b0,H⟩ := spDe H
  ·(first | rw [c9b0] | (simp only [zaO,zaR];rw [c9b0]) | skip)
   have H' := Aside0.mk H
   clear H
   go_wp2
   go_meet
   case rel => exact ⟨_,(decide (a0 ≤ 57)),qS,H',⟨by have := HJ1.out;have := HJ4.out;first | omega | exact Nat.le_refl _⟩,qW⟩
  (first | rw [c9b0] | (simp only [zaO,zaR];rw [c9b0]) | skip)
  have H' := Aside0.mk H
  clear H
  go_wp2
  go_meet
  case rel => exact ⟨_,(false),qS,H',⟨by have := HJ1.out;have := HJ4.out;first | omega | exact Nat.le_refl _⟩,qW⟩
 clear HC8
 obtain ⟨kq,x22_7,rfl,HA,HJ7,⟨mc7,rfl⟩⟩ := hcut
 cases kq with
 | zero => exact absurd HA.out (by simp [zcA])
 | succ kj7 =>
 have H := HA.out
 clear HA
 simp only [zcA] at H
 by_cases c10 : x22_7 = true
 ·subst c10
  have H1 : (some 3) = some r := by rw [if_pos rfl] at H;exact H
  clear H
  have H := H1
  clear H1
  obtain rfl := Option.some.inj H
  go_wp2
  go_ret
  exact ⟨qS,qW⟩
 replace c10 := Bool.eq_false_iff.mpr c10
 subst c10
 have H1 : (if a0 = 32 then (some 5) else (if a0 = 10 then (some 6) else ((stylusref01_Marks.f).bind fun t130 => (zcB kj7 a0 t130 0)))) = some r := by rw [if_neg nft] at H;exact H
 clear H
 have H := H1
 clear H1
 obtain ⟨c11b0,c11b1,H⟩ | ⟨c11b0,c11b1,H⟩ := spE H
 ·obtain rfl := Option.some.inj H
  go_wp2
  go_ret
  exact ⟨qS,qW⟩
 obtain ⟨c12b0,c12b1,H⟩ | ⟨c12b0,c12b1,H⟩ := spE H
 ·obtain rfl := Option.some.inj H
  go_wp2
  go_ret
  exact ⟨qS,qW⟩
 obtain ⟨t130,A13,H⟩ := bdA H
 replace H : (zcB kj7 a0 t130 0) = some r := H
 have H' := Aside0.mk H
 clear H
 go_wp2_with (first | ((with_reducible refine zaE (f := 43) rfl ?_);refine zaL (some 27) rfl rfl Try.func43 (by kernel_rfl) rfl #[] rfl qM ?_;(with_reducible refine (stylusref01_Marks.calls  t130 _ A13.out).mono ?_);rintro e w' ⟨rfl,⟨nd,rfl⟩⟩;refine ⟨_,rfl,?_⟩))
 go_loopg [4] kj7 (fun kq v4 w' => ∃ (x4_4 : Int),v4 = .int .i64 x4_4 ∧ Aside0 (zcB kq a0 t130 x4_4 = some r) ∧ Aside0 (kq ≤ kj7) ∧ Drawn0 w w')
 case atStart => exact ⟨(0),qS,H',⟨Nat.le_refl _⟩,qW⟩
 clear H'
 obtain ⟨x4_4,rfl,HA,HK4,⟨m4,rfl⟩⟩ := hrel
 cases gk with
 | zero => exact absurd HA.out (by simp [zcB])
 | succ k4 =>
 have H := HA.out
 clear HA
 simp only [zcB] at H
 obtain ⟨c14b0,H⟩ | ⟨c14b0,H⟩ := spD H
 rotate_left
 ·obtain rfl := Option.some.inj H
  go_wp2
  go_ret
  exact ⟨qS,qW⟩
 obtain ⟨c15b0,H⟩ := spN H
 obtain ⟨c17b0,c17b1,H⟩ | ⟨c17b0,c17b1,H⟩ := spE H
 ·obtain rfl := Option.some.inj H
  have p16 : 0 ≤ (x4_4 : Int) := qD
  have q16 : x4_4 < (t130.size : Int) := qD
  have hx16 := zfI t130 x4_4
  replace p16 := eq_true p16
  replace q16 := eq_true q16
  go_wp2
  go_ret
  exact ⟨qS,qW⟩
 have H' := Aside0.mk H
 clear H
 have p16 : 0 ≤ (x4_4 : Int) := qD
 have q16 : x4_4 < (t130.size : Int) := qD
 have hx16 := zfI t130 x4_4
 replace p16 := eq_true p16
 replace q16 := eq_true q16
 go_wp2
 go_roundg k4
 case measure => have := HJ1.out;have := HJ4.out;have := HJ7.out;have := HK4.out;omega
 case rel => exact ⟨(wrap64 (x4_4 + 1)),qS,H',⟨by have := HJ1.out;have := HJ4.out;have := HJ7.out;have := HK4.out;omega⟩,qW⟩
def stylusref01_Lower.f (k : Nat) (a0 : Int) : Option (Int) := (stylusref01_Class.f k a0).bind fun t131 => (if t131 = 2 then (some ((((a0 - 65) % 256) + 97) % 256)) else (some a0))
def zlB : Nat → ByteArray → List Int → Int → Option (ByteArray)
 | 0,_,_,_ => none
 | k + 1,x0,x3,x4 => if x4 < (x0.size : Int) then (if 0 ≤ x4 then ((stylusref01_Lower.f k (bt x0 x4)).bind fun t132 => (if x3.length < 140737488355328 then (zlB k x0 (x3 ++ [t132]) (wrap64 (x4 + 1))) else (none))) else (none)) else (some (strOfNums x3))
def stylusref01_Low.f (k : Nat) (a0 : ByteArray) : Option (ByteArray) := zlB k a0 ([] : List Int) 0
def stylusref01_Letter.f (k : Nat) (a0 : Int) : Option (Bool) := (stylusref01_Class.f k a0).bind fun t136 => (if t136 = 1 then (some true) else ((stylusref01_Class.f k a0).bind fun t137 => (some (t137 == 2))))
def chars_Is.f (a0 : Int) : Option (Bool) := (chars_Class.f a0).bind fun t101 => (if t101 = 0 then (some false) else (some (t101 != 6)))
theorem chars_Is.calls (a0 : Int) (r : Bool) (w : World) (h : chars_Is.f a0 = some r) :
  Calls Try.prog 33 #[.int .u8 a0] w fun e w' => e = .returned (.bool r) ∧ Below w.heap.size w w' := by
 have HB := Aside0.mk (Below.refl w.heap.size w)
 have H : ((chars_Class.f a0).bind fun t101 => (if t101 = 0 then (some false) else (some (t101 != 6)))) = some r := h
 clear h
 replace H := Option.bind_eq_some_iff.mp H
 obtain ⟨t101,A20,H⟩ := H
 replace H : (if t101 = 0 then (some false) else (some (t101 != 6))) = some r := H
 have A2 := Aside0.mk A20
 clear A20
 by_cases c3 : t101 = 0
 ·rw [if_pos c3] at H
  have c3b0 : (t101 == 0) = true := beq_iff_eq.mpr c3
  have c3b1 : (t101 != 0) = false := bne_eq_false_iff_eq.mpr c3
  clear c3
  obtain rfl := Option.some.inj H
  go_enter Try.func33,Try.ntmps33
  go_wp2_with (first | ((with_reducible refine zaE (f := 24) rfl ?_);refine zaL (some 5) rfl rfl Try.func24 (by kernel_rfl) rfl #[.int .u8 a0] rfl (by (try simp only [List.map_toArray,List.map_cons,List.map_nil]);first | done | rfl | (simp only [List.length_drop,List.length_take];rfl)) ?_;(with_reducible refine (chars_Class.calls a0 t101 _ A2.out).mono ?_);rintro e w4 ⟨rfl,hb⟩;refine ⟨_,rfl,?_⟩;have n0_ := Aside0.mk (zaD (by repeat (first | (with_reducible first | exact HB.out | apply zdZ | apply zaM | apply zaJ) | exact HB.out)) hb);clear HB;have HB := n0_;clear n0_;(try clear hb);(try clear hb2);(try clear hk);(try clear hi)))
  go_ret
  exact ⟨by first | rfl | (simp [zgH,zgI] <;> rfl) | (simp [*,zgH,zgI] <;> rfl),by repeat (first | (with_reducible first | exact HB.out | apply zdZ | apply zaM | apply zaJ) | exact HB.out)⟩
 rw [if_neg c3] at H
 have c3b0 : (t101 == 0) = false := beq_eq_false_iff_ne.mpr c3
 have c3b1 : (t101 != 0) = true := bne_iff_ne.mpr c3
 obtain rfl := Option.some.inj H
 go_enter Try.func33,Try.ntmps33
 go_wp2_with (first | ((with_reducible refine zaE (f := 24) rfl ?_);refine zaL (some 5) rfl rfl Try.func24 (by kernel_rfl) rfl #[.int .u8 a0] rfl (by (try simp only [List.map_toArray,List.map_cons,List.map_nil]);first | done | rfl | (simp only [List.length_drop,List.length_take];rfl)) ?_;(with_reducible refine (chars_Class.calls a0 t101 _ A2.out).mono ?_);rintro e w5 ⟨rfl,hb⟩;refine ⟨_,rfl,?_⟩;have n0_ := Aside0.mk (zaD (by repeat (first | (with_reducible first | exact HB.out | apply zdZ | apply zaM | apply zaJ) | exact HB.out)) hb);clear HB;have HB := n0_;clear n0_;(try clear hb);(try clear hb2);(try clear hk);(try clear hi)))
 go_ret
 exact ⟨by first | rfl | (simp [zgH,zgI] <;> rfl) | (simp [*,zgH,zgI] <;> rfl),by repeat (first | (with_reducible first | exact HB.out | apply zdZ | apply zaM | apply zaJ) | exact HB.out)⟩
def stylusref01_Is.f (k : Nat) (a0 : Int) : Option (Bool) := (stylusref01_Class.f k a0).bind fun t102 => (if t102 ≥ 1 then ((stylusref01_Class.f k a0).bind fun t103 => (some (decide (t103 ≤ 5)))) else (some false))
theorem stylusref01_Is.mono : ∀ a0 k,LeO (stylusref01_Is.f k a0) (stylusref01_Is.f (k + 1) a0) := by
 intro a0 k
 unfold stylusref01_Is.f
 repeat' first
   | (with_reducible exact stylusref01_Class.mono _ _)
   | (with_reducible exact LeO.refl _)
   | (with_reducible exact LeO.none _)
   | (with_reducible refine zmB ?_ ?_)
   | (with_reducible refine LeO.bind ?_ (fun _ => ?_))
   | exact stylusref01_Class.mono _ _
   | exact LeO.none _
   | refine zmB ?_ ?_
   | refine LeO.bind ?_ (fun _ => ?_)
theorem stylusref01_Is.calls (k : Nat) (a0 : Int) (r : Bool) (w : World) (h : stylusref01_Is.f k a0 = some r) :
  Calls Try.prog 34 #[.int .u8 a0] w fun e w' => e = .returned (.bool r) ∧ Drawn0 w w' := by
 have H : ((stylusref01_Class.f k a0).bind fun t102 => (if t102 ≥ 1 then ((stylusref01_Class.f k a0).bind fun t103 => (some (decide (t103 ≤ 5)))) else (some false))) = some r := h
 clear h
 replace H := Option.bind_eq_some_iff.mp H
 obtain ⟨t102,A20,H⟩ := H
 replace H : (if t102 ≥ 1 then ((stylusref01_Class.f k a0).bind fun t103 => (some (decide (t103 ≤ 5)))) else (some false)) = some r := H
 have A2 := Aside0.mk A20
 clear A20
 by_cases c3 : t102 ≥ 1
 rotate_left
 ·rw [if_neg c3] at H
  have c3b0 : decide (1 ≤ t102) = false := decide_eq_false c3
  clear c3
  obtain rfl := Option.some.inj H
  go_enter Try.func34,Try.ntmps34
  go_wp2_with (first | ((with_reducible refine zaE (f := 32) rfl ?_);refine zaL (some 4) rfl rfl Try.func32 (by kernel_rfl) rfl #[.int .u8 a0] rfl (by (try simp only [List.map_toArray,List.map_cons,List.map_nil]);first | done | rfl | (simp only [List.length_drop,List.length_take];rfl)) ?_;(with_reducible refine (stylusref01_Class.calls k a0 t102 _ A2.out).mono ?_);rintro e w' ⟨rfl,⟨nd,rfl⟩⟩;refine ⟨_,rfl,?_⟩))
  go_ret
  exact ⟨by first | rfl | (simp;done) | (simp [*];done),by repeat (first | exact Drawn0.refl _ | apply zfO)⟩
 rw [if_pos c3] at H
 have c3b0 : decide (1 ≤ t102) = true := decide_eq_true c3
 clear c3
 replace H := Option.bind_eq_some_iff.mp H
 obtain ⟨t103,A40,H⟩ := H
 replace H : (some (decide (t103 ≤ 5))) = some r := H
 have A4 := Aside0.mk A40
 clear A40
 obtain rfl := Option.some.inj H
 go_enter Try.func34,Try.ntmps34
 go_wp2_with (first | ((with_reducible refine zaE (f := 32) rfl ?_);refine zaL (some 4) rfl rfl Try.func32 (by kernel_rfl) rfl #[.int .u8 a0] rfl (by (try simp only [List.map_toArray,List.map_cons,List.map_nil]);first | done | rfl | (simp only [List.length_drop,List.length_take];rfl)) ?_;(with_reducible refine (stylusref01_Class.calls k a0 t102 _ A2.out).mono ?_);rintro e w' ⟨rfl,⟨nd,rfl⟩⟩;refine ⟨_,rfl,?_⟩) | (go_at_call 32;(with_reducible refine (stylusref01_Class.calls k a0 t103 _ A4.out).mono ?_);rintro e w' ⟨rfl,⟨nd,rfl⟩⟩))
 go_ret
 exact ⟨by first | rfl | (simp;done) | (simp [*];done),by repeat (first | exact Drawn0.refl _ | apply zfO)⟩
def chars_White.f (a0 : Int) : Option (Bool) := if a0 = 32 then (some true) else (some (a0 == 10))
theorem chars_White.calls (a0 : Int) (r : Bool) (w : World) (h : chars_White.f a0 = some r) :
  Calls Try.prog 35 #[.int .u8 a0] w fun e w' => e = .returned (.bool r) ∧ Drawn0 w w' := by
 have H : (if a0 = 32 then (some true) else (some (a0 == 10))) = some r := h
 clear h
 by_cases c2 : a0 = 32
 ·rw [if_pos c2] at H
  have c2b0 : (a0 == 32) = true := beq_iff_eq.mpr c2
  have c2b1 : (a0 != 32) = false := bne_eq_false_iff_eq.mpr c2
  clear c2
  obtain rfl := Option.some.inj H
  go_enter Try.func35,Try.ntmps35
  go_wp2
  go_ret
  exact ⟨by first | rfl | (simp;done) | (simp [*];done),by repeat (first | exact Drawn0.refl _ | apply zfO)⟩
 rw [if_neg c2] at H
 have c2b0 : (a0 == 32) = false := beq_eq_false_iff_ne.mpr c2
 have c2b1 : (a0 != 32) = true := bne_iff_ne.mpr c2
 obtain rfl := Option.some.inj H
 go_enter Try.func35,Try.ntmps35
 go_wp2
 go_ret
 exact ⟨by first | rfl | (simp;done) | (simp [*];done),by repeat (first | exact Drawn0.refl _ | apply zfO)⟩
def chars_Letter.f (a0 : Int) : Option (Bool) := (chars_Class.f a0).bind fun t104 => (if t104 = 1 then (some true) else (some (t104 == 2)))
def stylusref01_Upper.f (k : Nat) (a0 : Int) : Option (Int) := (stylusref01_Class.f k a0).bind fun t105 => (if t105 = 1 then (some ((((a0 - 97) % 256) + 65) % 256)) else (some a0))
def styluslaw01_CharsOf.f (k : Nat) (a0 : Int) : Option (Bool) := (chars_Class.f a0).bind fun t106 => ((stylusref01_Class.f k a0).bind fun t107 => (if t106 = t107 then ((chars_Is.f a0).bind fun t108 => ((stylusref01_Is.f k a0).bind fun t109 => (if (t108 == t109) = true then ((chars_White.f a0).bind fun t110 => (if a0 = 32 then (if (t110 == true) = true then ((chars_Letter.f a0).bind fun t111 => ((stylusref01_Letter.f k a0).bind fun t112 => (if (t111 == t112) = true then ((chars_Lower.f a0).bind fun t113 => ((stylusref01_Lower.f k a0).bind fun t114 => (if t113 = t114 then ((chars_Upper.f a0).bind fun t115 => ((stylusref01_Upper.f k a0).bind fun t116 => (if t115 = t116 then ((chars_Marks.f).bind fun t117 => ((stylusref01_Marks.f).bind fun t118 => (if t117.toList = t118.toList then ((styluslaw01_awake.f k).bind fun t119 => (some t119)) else (some false)))) else (some false)))) else (some false)))) else (some false)))) else (some false)) else (if (t110 == (a0 == 10)) = true then ((chars_Letter.f a0).bind fun t120 => ((stylusref01_Letter.f k a0).bind fun t121 => (if (t120 == t121) = true then ((chars_Lower.f a0).bind fun t122 => ((stylusref01_Lower.f k a0).bind fun t123 => (if t122 = t123 then ((chars_Upper.f a0).bind fun t124 => ((stylusref01_Upper.f k a0).bind fun t125 => (if t124 = t125 then ((chars_Marks.f).bind fun t126 => ((stylusref01_Marks.f).bind fun t127 => (if t126.toList = t127.toList then ((styluslaw01_awake.f k).bind fun t128 => (some t128)) else (some false)))) else (some false)))) else (some false)))) else (some false)))) else (some false)))) else (some false)))) else (some false)))
end Go.Proofs.Ythcmfjpheanphaa.Pr
namespace Go.Det
open Go Go.RowKit
theorem sl_strh {P : Program} {t : TypeId} (h : P.underlying t = some .string) (s : ByteArray) (j : Nat) (hj : j ≤ s.size) (w : World) :
  (Instr.slice t (.string s) none (some (.int .i64 (j : Int))) none).run P w = .ok (.string (s.extract 0 j)) w := by
 simp [Instr.slice,Instr.sliceBounds,Instr.sliceBound,asIntOf,run_underlying h,hj]
theorem sl_strl {P : Program} {t : TypeId} (h : P.underlying t = some .string) (s : ByteArray) (i : Nat) (hi : i ≤ s.size) (w : World) :
  (Instr.slice t (.string s) (some (.int .i64 (i : Int))) none none).run P w = .ok (.string (s.extract i s.size)) w := by
 simp [Instr.slice,Instr.sliceBounds,Instr.sliceBound,asIntOf,run_underlying h,hi]
theorem below_setRow {B : Nat} {w W : World} (h : Below B w W) {g : Nat} (hg : B ≤ g) (cs : Array Value) : Below B w (W.setRow g cs) :=
 h.trans ⟨rfl,rfl,rfl,by simp [World.setRow],fun k hk => by simp only [World.setRow,Array.getElem?_modify];rw [if_neg (by omega)]⟩
end Go.Det
namespace Go.Proofs.Ythcmfjpheanphaa.Pr
open Go.RowKit Go.Proofs.YthcmfjpheanphaaW.PrintWords
def zbT : List ByteArray := [⟨#[104,49]⟩,⟨#[104,50]⟩,⟨#[104,51]⟩,⟨#[112]⟩,⟨#[108]⟩,⟨#[105]⟩,⟨#[116]⟩,⟨#[114]⟩,⟨#[99]⟩,⟨#[110]⟩,⟨#[101]⟩,⟨#[115]⟩,⟨#[107]⟩]
theorem zhK (w : World) : Calls Try.prog 85 #[] w fun e w' => e = .returned (.slice (some ⟨w.heap.size,0,none⟩) 13 13) ∧ w' = w.alloc (.cells (zbT.map Value.string).toArray 9) := by
 go_enter Try.func85,Try.ntmps85
 go_wp2
 go_ret
 exact ⟨rfl,rfl⟩
theorem zlS {w W : World} (h : Below (w.alloc (.cells (zbT.map Value.string).toArray 9)).heap.size (w.alloc (.cells (zbT.map Value.string).toArray 9)) W) (j : Nat) (x : ByteArray) (hx : zbT[j]? = some x) :
  W.cell? ⟨w.heap.size,j,none⟩ = some (.string x) := by
 rw [h.cell (p := ⟨w.heap.size,j,none⟩) (by simp)]
 rw [zaB (zbW w (.cells (zbT.map Value.string).toArray 9)) j]
 simp [hx]
def letP (n : ByteArray) : Int := bt n ((n.size : Int) - 1)
theorem zpU (n : ByteArray) (h : 0 < n.size) (hn : n.size ≤ 1000000) (w : World) : Calls Try.prog 88 #[.string n] w fun e w' => e = .returned (.int .u8 (letP n)) ∧ w = w' := by
 have h1 : (0 : Int) ≤ (n.size : Int) - 1 := by omega
 have h2 : (n.size : Int) - 1 < n.size := by omega
 have h3 : n.size - 1 < n.size := by omega
 have e1 : (n.size : Int) - 1 = ((n.size - 1 : Nat) : Int) := by omega
 have hg : ((n[n.size - 1].toNat : Nat) : Int) = letP n := by
  unfold letP
  rw [e1]
  exact zfI n ((n.size - 1 : Nat) : Int) (by simpa using h3)
 have hix : ∀ W,(Instr.index 9 (.string n) (.int .i64 ((n.size : Int) - 1))).run Try.prog W = .ok (.int .u8 (letP n)) W := fun W => by
  rw [← hg,e1]
  go_simp
 generalize letP n = y at *
 clear hg e1
 go_enter Try.func88,Try.ntmps88
 go_wp2
 go_ret
 exact ⟨rfl,rfl⟩
theorem yaO (n : ByteArray) (h : 0 < n.size) (hn : n.size ≤ 1000000) (c : Int) (B : Nat) (W : World) (hB : B < W.heap.size) (hc : W.cell? ⟨B,0,none⟩ = some (.int .u8 c)) :
  Calls Try.prog 87 #[.string n,.pointer (some ⟨B,0,none⟩)] W fun e w' => e = .returned (.bool (letP n == c)) ∧ Below W.heap.size W w' := by
 have hcW : ∀ W',Below W.heap.size W W' → W'.cell? ⟨B,0,none⟩ = some (.int .u8 c) := fun W' hb => (hb.cell (p := ⟨B,0,none⟩) hB).trans hc
 have HC := Lib.hid hcW
 clear hcW hc
 have hl := zpU n h hn
 have HL := Lib.hid hl
 clear hl
 go_enter Try.func87,Try.ntmps87
 go_wp2_with fail
 refine Go.Det.region_all (fun W' => Below W.heap.size W W') (by kernel_rfl) (by kernel_rfl) (ziC (Below.refl _ _)) ?_
 repeat (apply Go.Det.seqW_cons;focus (intro W' hS;replace hS : Below W.heap.size W W' := hS;have hcc := HC.out W' hS;go_wp2_with (go_at_call 88;(with_reducible refine (HL.out _).mono ?_);rintro e w1 ⟨rfl,rfl⟩);exact Go.Det.AtEnd.mk hS))
 refine Go.Det.seqW_nil ?_
 intro W' hS
 replace hS : Below W.heap.size W W' := hS
 simp only [Exit.then]
 go_wp2
 go_ret
 exact ⟨rfl,hS⟩
def idxP (p : ByteArray → Bool) : List ByteArray → Int → Int
 | [],_ => -1
 | x :: xs,i => if p x then i else idxP p xs (i + 1)
theorem znA (g : Nat) (lb : Array Value) (eg : ∀ args w,(callFunc g args).run Try.prog w = .ok (.enter g args) w) (p : ByteArray → Bool) (xs : List ByteArray) (blk c : Nat) (w : World) (hx : xs.length ≤ 1000000)
  (hcell : ∀ W,Below w.heap.size w W → ∀ (j : Nat) x,xs[j]? = some x → W.cell? ⟨blk,j,none⟩ = some (.string x))
  (hg : ∀ x ∈ xs,∀ W,Below w.heap.size w W → Calls Try.prog g (#[.string x] ++ lb) W fun e w' => e = .returned (.bool (p x)) ∧ Below W.heap.size W w') :
  Calls Try.prog 86 #[.slice (some ⟨blk,0,none⟩) xs.length c,.func (.func g) #[] lb] w fun e w' => e = .returned (.int .i64 (idxP p xs 0)) ∧ Below w.heap.size w w' := by
 have HC := Lib.hid hcell
 have HG := Lib.hid hg
 clear hcell hg
 obtain ⟨n,hn⟩ : ∃ n,xs.length = n := ⟨_,rfl⟩
 rw [hn] at hx ⊢
 have HN := Lib.hid hn
 clear hn
 go_enter Try.func86,Try.ntmps86
 go_wp2
 go_loopw [8] (fun v wr => ∃ (k : Nat) (rest : List ByteArray),xs.drop k = rest ∧ Hid (idxP p xs 0 = idxP p rest k) ∧ v = .int .i64 k ∧ k ≤ n ∧ Below w.heap.size w wr) (fun v _ => n - (intOf v).toNat)
 case atStart => exact ⟨0,xs,rfl,Lib.hid rfl,rfl,by omega,Below.refl _ _⟩
 case round =>
  obtain ⟨k,rest,hr,H,rfl,hk,hB⟩ := hrel
  by_cases hlt : k < n
  ·have hl2 : (k : Int) < (n : Int) := by omega
   obtain ⟨x,rest,rfl⟩ : ∃ x r,rest = x :: r := by
    cases rest with
    | nil =>
     have := congrArg List.length hr
     simp at this
     have := HN.out
     omega
    | cons x r => exact ⟨x,r,rfl⟩
   have hxk : xs[k]? = some x := by
    have := congrArg (fun l => l[0]?) hr
    simpa using this
   have hr' : xs.drop (k + 1) = rest := by
    have := congrArg List.tail hr
    simpa using this
   have HR := Lib.hid hr'
   have hcc := HC.out wr hB k x hxk
   have hcall := HG.out x (List.mem_of_getElem? hxk) wr hB
   clear hr hr' hxk
   cases hp : p x with
   | true =>
    rw [hp] at hcall
    have hi : idxP p xs 0 = k := by rw [H.out];simp [idxP,hp]
    have HI := Lib.hid hi
    clear hi hp H
    go_wp2_with (go_at_fn g;refine hcall.mono ?_;rintro e w' ⟨rfl,hb'⟩)
    go_ret
    exact ⟨by rw [HI.out];rfl,hB.trans (hb'.mono hB.size)⟩
   | false =>
    rw [hp] at hcall
    have hi : idxP p xs 0 = idxP p rest ((k + 1 : Nat) : Int) := by rw [H.out];simp [idxP,hp]
    have HI := Lib.hid hi
    clear hi hp H
    go_wp2_with (go_at_fn g;refine hcall.mono ?_;rintro e w' ⟨rfl,hb'⟩)
    go_roundw
    case rel => exact ⟨k + 1,rest,HR.out,HI,by go_num,by omega,hB.trans (hb'.mono hB.size)⟩
    case measure => simp [intOf];omega
  ·have hk2 : ¬ (k : Int) < (n : Int) := by omega
   have hnil : rest = [] := by
    rw [← hr];apply List.drop_eq_nil_of_le;have := HN.out;omega
   subst hnil
   have hi : idxP p xs 0 = -1 := H.out
   have HI := Lib.hid hi
   clear hi hr H
   go_wp2
   go_ret
   exact ⟨by rw [HI.out];rfl,hB⟩
theorem zpV (p : ByteArray → Bool) : ∀ (xs : List ByteArray) (i : Int),(idxP p xs i = -1 ∧ xs.find? p = none) ∨ ∃ (j : Nat) (x : ByteArray),xs[j]? = some x ∧ idxP p xs i = i + j ∧ xs.find? p = some x ∧ p x = true
 | [],i => .inl ⟨rfl,rfl⟩
 | x :: xs,i => by
  cases hp : p x with
  | true => exact .inr ⟨0,x,rfl,by simp [idxP,hp],by simp [hp],hp⟩
  | false =>
  rcases zpV p xs (i + 1) with ⟨h1,h2⟩ | ⟨j,y,h1,h2,h3,h4⟩
  ·exact .inl ⟨by simp [idxP,hp,h1],by simp [hp,h2]⟩
  exact .inr ⟨j + 1,y,by simpa using h1,by simp [idxP,hp,h2];omega,by simp [hp,h3],h4⟩
theorem ziT : ∀ x ∈ zbT,0 < x.size ∧ x.size ≤ 2 := by decide +kernel
def zjR (c : Int) : ByteArray := ((zbT.find? fun n => letP n == c)).getD ⟨#[]⟩
theorem ydD (c : Int) (w : World) : Calls Try.prog 48 #[.int .u8 c] w fun e w' => e = .returned (.string (zjR c)) ∧ Below w.heap.size w w' := by
 have hB0 : Below w.heap.size w ((w.alloc (.cells #[.int .u8 c] 5)).alloc (.cells (zbT.map Value.string).toArray 9)) := ((Below.refl _ w).alloc (Nat.le_refl _) _).alloc (by simp) _
 have hfn := znA 87 #[.pointer (some ⟨w.heap.size,0,none⟩)] (enters_of Try.func87 (by kernel_rfl) rfl) (fun n => letP n == c) zbT (w.heap.size + 1) 13 ((w.alloc (.cells #[.int .u8 c] 5)).alloc (.cells (zbT.map Value.string).toArray 9)) (by decide)
  (fun W hW j x hx => by have := zlS hW j x hx;simpa using this)
  (fun x hx W hW => yaO x (ziT x hx).1 (by have := (ziT x hx).2;omega) c w.heap.size W (by have := hW.size;simp at this;omega)
   ((hW.cell (p := ⟨w.heap.size,0,none⟩) (by simp;omega)).trans (by
    rw [zaB (zcE (zbW w (.cells #[.int .u8 c] 5)) _) 0];rfl)))
 have hcell := fun W hW j x hx => zlS (w := w.alloc (.cells #[.int .u8 c] 5)) (W := W) hW j x hx
 have HC := Lib.hid hcell
 have HF := Lib.hid hfn
 clear hfn hcell
 have hlen : zbT.length = 13 := rfl
 have hspec := zpV (fun n => letP n == c) zbT 0
 unfold zjR
 rcases hspec with ⟨h1,h2⟩ | ⟨j,x,h1,h2,h3,_⟩
 ·have H1 := Lib.hid h1
  rw [h2]
  clear h1 h2
  go_enter Try.func48,Try.ntmps48
  go_wp2_with (first | (go_at_call 85;refine (zhK _).mono ?_;rintro e w' ⟨rfl,rfl⟩) | (go_at_call 86;refine HF.out.mono ?_;rintro e w' ⟨rfl,hb⟩;rw [H1.out]))
  go_ret
  exact ⟨rfl,hB0.trans (hb.mono hB0.size)⟩
 rw [Int.zero_add] at h2
 have H1 := Lib.hid h2
 have hj : j < 13 := (List.getElem?_eq_some_iff.1 h1).1
 have hj0 : ¬ (j : Int) < 0 := by omega
 have hj2 : (j : Int) < 13 := by omega
 have HX := Lib.hid h1
 rw [h3]
 clear h1 h2 h3
 go_enter Try.func48,Try.ntmps48
 go_wp2_with (first | (go_at_call 85;refine (zhK _).mono ?_;rintro e w' ⟨rfl,rfl⟩) | (go_at_call 86;refine HF.out.mono ?_;rintro e w' ⟨rfl,hb⟩;rw [H1.out];have hcc := HC.out w' hb j x HX.out;simp only [World.size_alloc] at hcc))
 go_ret
 exact ⟨rfl,hB0.trans (hb.mono hB0.size)⟩
def lex_Name.f (a0 : Int) : Option ByteArray := some (zjR a0)
def zhP (t n : ByteArray) : Bool := if n.size ≤ t.size then (t.extract 0 n.size).toList == n.toList else false
theorem yaP (t n : ByteArray) (ht : t.size ≤ 140737488355328) (hn : n.size ≤ 140737488355328) (w : World) : Calls Try.prog 106 #[.string t,.string n] w fun e w' => e = .returned (.bool (zhP t n)) ∧ w = w' := by
 unfold zhP
 by_cases h : n.size ≤ t.size
 ·rw [if_pos h]
  have h1 : decide ((n.size : Int) ≤ (t.size : Int)) = true := by simpa using h
  have h2 : (n.size : Int) ≤ (t.size : Int) := by omega
  have h3 : (0 : Int) ≤ (n.size : Int) := by omega
  go_enter Try.func106,Try.ntmps106
  go_wp2
  go_ret
  exact ⟨rfl,rfl⟩
 rw [if_neg h]
 have h1 : decide ((n.size : Int) ≤ (t.size : Int)) = false := by simp;omega
 go_enter Try.func106,Try.ntmps106
 go_wp2
 go_ret
 exact ⟨rfl,rfl⟩
theorem ydE (t n : ByteArray) (ht : t.size ≤ 140737488355328) (hn : n.size ≤ 140737488355328) (w : World) : Calls Try.prog 58 #[.string t,.string n] w fun e w' => e = .returned (.bool (zhP t n)) ∧ w = w' := by
 have h := fun w => yaP t n ht hn w
 have H := Lib.hid h
 clear h
 go_enter Try.func58,Try.ntmps58
 go_wp2_with (go_at_call 106;refine (H.out _).mono ?_;rintro e w' ⟨rfl,rfl⟩)
 go_ret
 exact ⟨rfl,rfl⟩
theorem yaQ (n s : ByteArray) (hn : n.size ≤ 1000000) (hs : s.size ≤ 1000000) (h1 : 1 ≤ s.size) (B : Nat) (W : World) (hc : W.cell? ⟨B,0,none⟩ = some (.string s)) :
  Calls Try.prog 168 #[.string n,.pointer (some ⟨B,0,none⟩)] W fun e w' => e = .returned (.bool (zhP (s.extract 1 s.size) n)) ∧ Below W.heap.size W w' := by
 have h := fun w => ydE (s.extract 1 s.size) n (by rw [ByteArray.size_extract];omega) (by omega) w
 have H := Lib.hid h
 clear h
 have hsl : ∀ W,(Instr.slice 9 (.string s) (some (.int .i64 1)) none none).run Try.prog W = .ok (.string (s.extract 1 s.size)) W := fun W => by
  have h2 : (1 : Int) ≤ (s.size : Int) := by omega
  simp [Instr.slice,Instr.sliceBounds,Instr.sliceBound,asIntOf,run_underlying Try.underlying9,h2,h1]
 go_enter Try.func168,Try.ntmps168
 go_wp2_with (go_at_call 58;refine (H.out _).mono ?_;rintro e w' ⟨rfl,rfl⟩)
 go_ret
 exact ⟨rfl,Below.refl _ _⟩
def zdA (c : Int) : Bool := c == 32 || c == 10
theorem yfD : ∀ n : Fin 256,chars_White.f (n.val : Int) = some (zdA (n.val : Int)) ∧ chars_Is.f (n.val : Int) = some (!(zfC (n.val : Int) == 0) && !(zfC (n.val : Int) == 6)) := by decide +kernel
def zcX (c : Int) : Bool := (!(zfC c == 0) && !(zfC c == 6)) || zdA c
theorem zsN (c : Int) (h0 : 0 ≤ c) (h1 : c ≤ 255) : chars_White.f c = some (zdA c) ∧ chars_Is.f c = some (!(zfC c == 0) && !(zfC c == 6)) := by
 have := yfD ⟨c.toNat,by omega⟩
 simpa only [Int.toNat_of_nonneg h0] using this
theorem ziU (c : Int) (h0 : 0 ≤ c) (h1 : c ≤ 255) (w : World) : Calls Try.prog 35 #[.int .u8 c] w fun e w' => e = .returned (.bool (zdA c)) ∧ Below w.heap.size w w' :=
 (chars_White.calls c _ w (zsN c h0 h1).1).mono fun _ _ ⟨he,hd⟩ => ⟨he,hd.below⟩
theorem yaR (c : Int) (h0 : 0 ≤ c) (h1 : c ≤ 255) (w : World) : Calls Try.prog 161 #[.int .u8 c] w fun e w' => e = .returned (.bool (zcX c)) ∧ Below w.heap.size w w' := by
 have hi := (zsN c h0 h1).2
 have hw := fun w => ziU c h0 h1 w
 unfold zcX
 generalize (!(zfC c == 0) && !(zfC c == 6)) = b1 at *
 generalize zdA c = b2 at *
 have HI := Lib.hid hi
 have HW := Lib.hid hw
 clear hi hw
 cases b1
 ·go_enter Try.func161,Try.ntmps161
  go_wp2_with (first | (go_at_call 33;refine (chars_Is.calls c _ _ HI.out).mono ?_;rintro e w1 ⟨rfl,hb⟩) | (go_at_call 35;refine (HW.out _).mono ?_;rintro e w2 ⟨rfl,hb2⟩))
  go_ret
  exact ⟨by simp,hb.trans (hb2.mono hb.size)⟩
 go_enter Try.func161,Try.ntmps161
 go_wp2_with (first | (go_at_call 33;refine (chars_Is.calls c _ _ HI.out).mono ?_;rintro e w1 ⟨rfl,hb⟩) | (go_at_call 35;refine (HW.out _).mono ?_;rintro e w2 ⟨rfl,hb2⟩))
 go_ret
 exact ⟨by simp,hb⟩
def zkR (s : ByteArray) : Option ByteArray := zbT.find? fun n => zhP (s.extract 1 s.size) n
structure Spot where
 l : S47
 size : Int
 e : Int
def zlT (s : ByteArray) (at_ : Int) : Spot :=
 match zkR s with
 | none => ⟨⟨0,0,⟨#[]⟩,0⟩,0,2⟩
 | some x => ⟨⟨2,letP x,⟨#[]⟩,at_⟩,(if x.size + 1 < s.size ∧ zdA (bt s ((x.size + 1 : Nat) : Int)) = true then x.size + 2 else x.size + 1),0⟩
def ziH (x : Spot) : Value := .agg #[.int .i64 x.l.f0,.int .u8 x.l.f1,.string x.l.f2,.int .i64 x.l.f3,.int .i64 x.size,.int .i64 x.e]
set_option pp.maxSteps 3000 in
theorem zxX (s : ByteArray) (at_ : Int) (h1 : 1 ≤ s.size) (hs : s.size ≤ 1000000) (w : World) :
  Calls Try.prog 160 #[.string s,.int .i64 at_] w fun e w' => e = .returned (ziH (zlT s at_)) ∧ Below w.heap.size w w' := by
 have hB0 : Below w.heap.size w (((w.alloc (.cells #[.string s] 9)).alloc (.cells #[.int .i64 0,.int .u8 0,.string ⟨#[]⟩,.int .i64 0,.int .i64 0,.int .i64 0] 87)).alloc (.cells (zbT.map Value.string).toArray 9)) := (((Below.refl _ w).alloc (Nat.le_refl _) _).alloc (by simp) _).alloc (by simp;omega) _
 have hbox : ∀ W,Below (((w.alloc (.cells #[.string s] 9)).alloc (.cells #[.int .i64 0,.int .u8 0,.string ⟨#[]⟩,.int .i64 0,.int .i64 0,.int .i64 0] 87)).alloc (.cells (zbT.map Value.string).toArray 9)).heap.size (((w.alloc (.cells #[.string s] 9)).alloc (.cells #[.int .i64 0,.int .u8 0,.string ⟨#[]⟩,.int .i64 0,.int .i64 0,.int .i64 0] 87)).alloc (.cells (zbT.map Value.string).toArray 9)) W → W.cell? ⟨w.heap.size,0,none⟩ = some (.string s) := fun W hW =>
  (hW.cell (p := ⟨w.heap.size,0,none⟩) (by simp;omega)).trans (by
   rw [zaB (zcE (zcE (zbW w (.cells #[.string s] 9)) _) _) 0];rfl)
 have hblk : ∀ W,Below (((w.alloc (.cells #[.string s] 9)).alloc (.cells #[.int .i64 0,.int .u8 0,.string ⟨#[]⟩,.int .i64 0,.int .i64 0,.int .i64 0] 87)).alloc (.cells (zbT.map Value.string).toArray 9)).heap.size (((w.alloc (.cells #[.string s] 9)).alloc (.cells #[.int .i64 0,.int .u8 0,.string ⟨#[]⟩,.int .i64 0,.int .i64 0,.int .i64 0] 87)).alloc (.cells (zbT.map Value.string).toArray 9)) W → W.heap[w.heap.size + 1]? = some (.cells #[.int .i64 0,.int .u8 0,.string ⟨#[]⟩,.int .i64 0,.int .i64 0,.int .i64 0] 87 (0,0)) := fun W hW =>
  (hW.block (w.heap.size + 1) (by simp)).trans (by
   have := zcE (zbW (w.alloc (.cells #[.string s] 9)) (.cells #[.int .i64 0,.int .u8 0,.string ⟨#[]⟩,.int .i64 0,.int .i64 0,.int .i64 0] 87)) (.cells (zbT.map Value.string).toArray 9)
   simpa using this)
 have hfn := znA 168 #[.pointer (some ⟨w.heap.size,0,none⟩)] (enters_of Try.func168 (by kernel_rfl) rfl) (fun n => zhP (s.extract 1 s.size) n) zbT (w.heap.size + 1 + 1) 13 (((w.alloc (.cells #[.string s] 9)).alloc (.cells #[.int .i64 0,.int .u8 0,.string ⟨#[]⟩,.int .i64 0,.int .i64 0,.int .i64 0] 87)).alloc (.cells (zbT.map Value.string).toArray 9)) (by decide)
  (fun W hW j x hx => by have := zlS hW j x hx;simpa using this)
  (fun x hx W hW => yaQ x s (by have := (ziT x hx).2;omega) hs h1 w.heap.size W (hbox W hW))
 have hcell := fun W hW j x hx => zlS (w := (w.alloc (.cells #[.string s] 9)).alloc (.cells #[.int .i64 0,.int .u8 0,.string ⟨#[]⟩,.int .i64 0,.int .i64 0,.int .i64 0] 87)) (W := W) hW j x hx
 have HC := Lib.hid hcell
 have HF := Lib.hid hfn
 have HX := Lib.hid hbox
 have HK := Lib.hid hblk
 clear hfn hcell hbox hblk
 have hlen : zbT.length = 13 := rfl
 have hspec := zpV (fun n => zhP (s.extract 1 s.size) n) zbT 0
 unfold zlT zkR
 rcases hspec with ⟨g1,g2⟩ | ⟨j,x,g1,g2,g3,_⟩
 ·have H1 := Lib.hid g1
  rw [g2]
  clear g1 g2
  go_enter Try.func160,Try.ntmps160
  go_wp2_with (first | (go_at_call 85;refine (zhK _).mono ?_;rintro e w' ⟨rfl,rfl⟩) | (go_at_call 86;refine HF.out.mono ?_;rintro e w' ⟨rfl,hb⟩;rw [H1.out]) | (refine wpList_store_row rfl 87 (.tmp 4) (.tmp 14) rfl (w.heap.size + 1) _ rfl rfl 87 _ (HK.out _ hb) ?h1 ?h2 ?h3 ?h4))
  case h1 => kernel_rfl
  case h2 => rfl
  case h3 => simp [Value.oneCell']
  case h4 =>
   go_wp2
   refine bodyPost_ret (results_cell_row rfl _ _ (w.heap.size + 1) 87 _ (0,0) _ rfl (setRow_heap _ _ _ _ _ _ (HK.out _ hb)) Try.underlying87 rfl (by kernel_rfl)) rfl ⟨rfl,?_⟩
   exact Go.Det.below_setRow (hB0.trans (hb.mono hB0.size)) (by omega) _
 ·rw [Int.zero_add] at g2
  have H1 := Lib.hid g2
  have hj : j < 13 := (List.getElem?_eq_some_iff.1 g1).1
  have hj0 : ¬ (j : Int) < 0 := by omega
  have hj2 : (j : Int) < 13 := by omega
  have hxs := ziT x (List.mem_of_getElem? g1)
  have hx1 : (0 : Int) ≤ (x.size : Int) - 1 := by omega
  have hxz : x.size ≤ 2 := hxs.2
  have HXn := Lib.hid g1
  have hlt := zpU x hxs.1 (by omega)
  have HL := Lib.hid hlt
  rw [g3]
  dsimp only
  clear g1 g2 g3 hlt
  by_cases hsz : x.size + 1 < s.size
  ·have hsz2 : (1 : Int) + (x.size : Int) < (s.size : Int) := by omega
   have hsz3 : 1 + x.size < s.size := by omega
   have hr := zfZ s ((x.size + 1 : Nat) : Int)
   have hg : ((s[1 + x.size].toNat : Nat) : Int) = bt s ((x.size + 1 : Nat) : Int) := by
    have := zfI s ((1 + x.size : Nat) : Int) (by rw [Int.toNat_natCast];exact hsz3)
    rw [Nat.add_comm x.size 1,← this];rfl
   have hw := fun W => ziU _ hr.1 hr.2 W
   generalize bt s ((x.size + 1 : Nat) : Int) = y at *
   have HW := Lib.hid hw
   clear hw
   cases hwy : zdA y
   ·rw [hwy] at HW
    rw [if_neg (fun h => by simp at h)]
    go_enter Try.func160,Try.ntmps160
    go_wp2_with (first | (go_at_call 85;refine (zhK _).mono ?_;rintro e w' ⟨rfl,rfl⟩) | (go_at_call 86;refine HF.out.mono ?_;rintro e w' ⟨rfl,hb⟩;rw [H1.out];have hcc := HC.out w' hb j x HXn.out;simp only [World.size_alloc] at hcc;have hbx := HX.out w' hb) | (go_at_call 35;refine (HW.out _).mono ?_;rintro e w2 ⟨rfl,hb2⟩;have hb3 := hb.trans (hb2.mono hb.size);have hcc2 := HC.out w2 hb3 j x HXn.out;simp only [World.size_alloc] at hcc2) | (go_at_call 88;refine (HL.out _).mono ?_;rintro e w3 ⟨rfl,rfl⟩) | (refine wpList_store_row rfl 87 (.tmp 4) (.tmp 41) rfl (w.heap.size + 1) _ rfl rfl 87 _ (HK.out _ hb3) ?h1 ?h2 ?h3 ?h4))
    case h1 => kernel_rfl
    case h2 => rfl
    case h3 => simp [Value.oneCell']
    case h4 =>
     go_wp2
     refine bodyPost_ret (results_cell_row rfl _ _ (w.heap.size + 1) 87 _ (0,0) _ rfl (setRow_heap _ _ _ _ _ _ (HK.out _ hb3)) Try.underlying87 rfl (by kernel_rfl)) rfl ⟨?_,?_⟩
     ·first | rfl | (rw [Int.add_comm];rfl)
     ·exact Go.Det.below_setRow (hB0.trans (hb3.mono hB0.size)) (by omega) _
   ·rw [hwy] at HW
    rw [if_pos ⟨hsz,rfl⟩]
    go_enter Try.func160,Try.ntmps160
    go_wp2_with (first | (go_at_call 85;refine (zhK _).mono ?_;rintro e w' ⟨rfl,rfl⟩) | (go_at_call 86;refine HF.out.mono ?_;rintro e w' ⟨rfl,hb⟩;rw [H1.out];have hcc := HC.out w' hb j x HXn.out;simp only [World.size_alloc] at hcc;have hbx := HX.out w' hb) | (go_at_call 35;refine (HW.out _).mono ?_;rintro e w2 ⟨rfl,hb2⟩;have hb3 := hb.trans (hb2.mono hb.size);have hcc2 := HC.out w2 hb3 j x HXn.out;simp only [World.size_alloc] at hcc2) | (go_at_call 88;refine (HL.out _).mono ?_;rintro e w3 ⟨rfl,rfl⟩) | (refine wpList_store_row rfl 87 (.tmp 4) (.tmp 41) rfl (w.heap.size + 1) _ rfl rfl 87 _ (HK.out _ hb3) ?h1 ?h2 ?h3 ?h4))
    case h1 => kernel_rfl
    case h2 => rfl
    case h3 => simp [Value.oneCell']
    case h4 =>
     go_wp2
     refine bodyPost_ret (results_cell_row rfl _ _ (w.heap.size + 1) 87 _ (0,0) _ rfl (setRow_heap _ _ _ _ _ _ (HK.out _ hb3)) Try.underlying87 rfl (by kernel_rfl)) rfl ⟨?_,?_⟩
     ·rw [show (1 : Int) + (x.size : Int) + 1 = (x.size : Int) + 2 by omega];rfl
     ·exact Go.Det.below_setRow (hB0.trans (hb3.mono hB0.size)) (by omega) _
  ·have hsz2 : ¬ (1 : Int) + (x.size : Int) < (s.size : Int) := by omega
   rw [if_neg (fun h => hsz h.1)]
   go_enter Try.func160,Try.ntmps160
   go_wp2_with (first | (go_at_call 85;refine (zhK _).mono ?_;rintro e w' ⟨rfl,rfl⟩) | (go_at_call 86;refine HF.out.mono ?_;rintro e w' ⟨rfl,hb⟩;rw [H1.out];have hcc := HC.out w' hb j x HXn.out;simp only [World.size_alloc] at hcc;have hbx := HX.out w' hb) | (go_at_call 88;refine (HL.out _).mono ?_;rintro e w3 ⟨rfl,rfl⟩) | (refine wpList_store_row rfl 87 (.tmp 4) (.tmp 41) rfl (w.heap.size + 1) _ rfl rfl 87 _ (HK.out _ hb) ?h1 ?h2 ?h3 ?h4))
   case h1 => kernel_rfl
   case h2 => rfl
   case h3 => simp [Value.oneCell']
   case h4 =>
    go_wp2
    refine bodyPost_ret (results_cell_row rfl _ _ (w.heap.size + 1) 87 _ (0,0) _ rfl (setRow_heap _ _ _ _ _ _ (HK.out _ hb)) Try.underlying87 rfl (by kernel_rfl)) rfl ⟨?_,?_⟩
    ·first | rfl | (rw [Int.add_comm];rfl)
    ·exact Go.Det.below_setRow (hB0.trans (hb.mono hB0.size)) (by omega) _
def lowI (c : Int) : Int := if zfC c = 2 then bits .or .u8 c 32 else c
def Row8 (W : World) (B : Nat) (xs : List Int) : Prop := ∃ (cs : Array Value),W.heap[B]? = some (.cells cs 5 (cs.size,cs.size + 1)) ∧ xs.length ≤ cs.size ∧ ∀ j,j < xs.length → cs[j]? = some (.int .u8 (xs.getD j 0))
theorem Row8.cell {W : World} {B : Nat} {xs : List Int} (h : Row8 W B xs) (j : Nat) (hj : j < xs.length) : W.cell? ⟨B,j,none⟩ = some (.int .u8 (xs.getD j 0)) := by
 obtain ⟨cs,h1,h2,h3⟩ := h
 simp only [World.cell?,h1]
 exact h3 j hj
def lowS (s : ByteArray) : ByteArray := strOfNums ((List.range s.size).map fun (j : Nat) => lowI (bt s (j : Int)))
def chars_Low.f (a0 : ByteArray) : Option ByteArray := if a0.size < 140737488355328 then some (lowS a0) else none
end Go.Proofs.Ythcmfjpheanphaa.Pr
namespace Go.Proofs.Ythcmfjpheanphaa.Pr
open Go.RowKit Go.Maps Go.Proofs.YthcmfjpheanphaaW.PrintWords
attribute [local go_sem] Oper.semAt_some
theorem zlU (s : ByteArray) (W : World) : ∃ C W',(convert 9 68 (.string s)).run Try.prog W = .ok (.slice (some ⟨W.heap.size,0,none⟩) s.size C) W' ∧ Below W.heap.size W W' ∧ ∀ j : Nat,j < s.size → W'.cell? ⟨W.heap.size,j,none⟩ = some (.int .u8 (bt s (j : Int))) := by
 have hb0 : Below W.heap.size W (Lib.bytesWorld W 5 s) := ⟨rfl,rfl,rfl,by rw [Lib.bytesWorld_size];omega,fun k hk => Lib.bytesWorld_at_old W 5 s k hk⟩
 refine ⟨_,_,Lib.run_convert_string_bytes (P := Try.prog) W 9 68 5 s Try.underlying9 Try.underlying68 Try.underlying5,hb0,fun j hj => ?_⟩
 have hr0 : Row8 (Lib.bytesWorld W 5 s) W.heap.size ((List.range s.size).map fun (j : Nat) => bt s (j : Int)) := by
  refine ⟨Lib.bytesCells W 5 s,Lib.bytesWorld_at_new W 5 s,by simp [Lib.bytesCells],fun j hj => ?_⟩
  simp at hj
  have : j < s.data.size := hj
  simp [Lib.bytesCells,Array.getElem?_append,this,bt,hj]
  rfl
 rw [hr0.cell j (by simpa using hj)]
 simp [hj]
theorem zlV {r : List Opn} (h : zfK r) : zfK (kidP r) := by
 intro o ho
 unfold kidP at ho
 obtain ⟨y,hy,rfl | rfl⟩ := zlO ho
 ·exact h _ hy
 exact h y hy
set_option pp.maxSteps 3000 in
theorem yaS (B0 g m : Nat) (vr vt : Value) (s : Bld) (x : S47) (w : World) (hB0 : B0 ≤ w.heap.size) (hxs : x.f2.size ≤ 1000000) (hn : s.row.length ≤ 999999) (hnt : s.t.length ≤ 999999) (hkb : zfK s.row) (hb : BAt w B0 g m vr vt s) :
  Calls Try.prog 92 #[.pointer (some ⟨g,0,none⟩),.agg #[.int .i64 x.f0,.int .u8 x.f1,.string x.f2,.int .i64 x.f3]] w fun e w' =>
   e = .returned (.tuple #[.int .i64 (zdW s x).2.1,.int .i64 (zdW s x).2.2]) ∧ zfW B0 g m (zdW s x).1 w w' := by
 obtain ⟨f0,k,f2,f3⟩ := x
 simp only at hxs
 obtain ⟨A,c,rfl⟩ := zbB hb.row
 have hb1 : Below w.heap.size w (w.alloc (.cells #[.int .i64 f0,.int .u8 k,.string f2,.int .i64 f3] 47)) := (Below.refl _ w).alloc (Nat.le_refl _) _
 have hx := zbW w (.cells #[.int .i64 f0,.int .u8 k,.string f2,.int .i64 f3] 47)
 have hbx := hb.below hb1
 obtain ⟨w1,hw1⟩ : ∃ w1,w.alloc (.cells #[.int .i64 f0,.int .u8 k,.string f2,.int .i64 f3] 47) = w1 := ⟨_,rfl⟩
 rw [hw1] at hb1 hx hbx
 have hmay := fun W (hW : BAt W B0 g m (.slice A s.row.length c) vt s) => zpT B0 g m _ vt s 46 W (by omega) (by omega) (by omega) hkb hW
 have HM := Lib.hid hmay
 have HB := Lib.hid hbx
 have HB1 := Lib.hid hb1
 have HX := Lib.hid hx
 have HKB := Lib.hid hkb
 clear hb hb1 hx hbx hmay hkb
 cases hmm : mayP s.row 46 with
 | false =>
  have hP : zdW s ⟨f0,k,f2,f3⟩ = if zdR f2 f2.size 0 < f2.size then (s,wrap64 (f3 + zdR f2 f2.size 0),2) else (s,f3,0) := by unfold zdW;simp only [hmm];rfl
  have HP := Lib.hid hP
  rw [hmm] at HM
  clear hP
  have HMM := Lib.hid hmm
  clear hmm
  have HCV := Lib.hid (fun W => zlU f2 W)
  go_enter Try.func92,Try.ntmps92
  go_wp2_with (go_at_call 104;refine (HM.out _ HB.out).mono ?_;rintro e w2 ⟨rfl,hb2⟩;have cx2 := zaB (zaG HX.out hb2) 2;have cx3 := zaB (zaG HX.out hb2) 3;simp only [gzz] at cx2 cx3;obtain ⟨C,W3,hcv,hb3,hcs⟩ := HCV.out w2;have HCS := Lib.hid hcs;clear hcs)
  have HW3 := Lib.hid (hb2.trans (hb3.mono hb2.size))
  clear hcv cx2 cx3
  go_loopw [17] (fun v wr => ∃ j : Nat,j ≤ f2.size ∧ v = .int .i64 j ∧ Below W3.heap.size W3 wr ∧ zdR f2 f2.size 0 = zdR f2 (f2.size - j) j) (fun v _ => f2.size - (intOf v).toNat)
  case atStart => exact ⟨0,Nat.zero_le _,rfl,Below.refl _ _,rfl⟩
  case round =>
   obtain ⟨j,hj,rfl,hB,hbl⟩ := hrel
   have HBL := Lib.hid hbl
   clear hbl
   have HBB := Lib.hid (HW3.out.trans (hB.mono HW3.out.size))
   have cx3 := zaB (zaG HX.out HBB.out) 3
   simp only [gzz] at cx3
   have HEND := Lib.hid (HB1.out.trans (HBB.out.mono HB1.out.size))
   by_cases hlt : j < f2.size
   ·have hlt1 : (j : Int) < (f2.size : Int) := by omega
    have q0 := HCS.out j hlt
    replace q0 := (hB.cell (World.block_lt_of_cell? W3 _ q0)).trans q0
    have hbr := zfZ f2 j
    have hst : zdR f2 (f2.size - j) j = if zpP (bt f2 j) = true then zdR f2 (f2.size - (j + 1)) (j + 1) else j := by
     rw [show f2.size - j = (f2.size - (j + 1)) + 1 from by omega]
     simp only [zdR]
     rw [if_pos hlt]
    have hw := fun W => ziU (bt f2 j) hbr.1 hbr.2 W
    have HST := Lib.hid hst
    obtain ⟨b,hbw⟩ : ∃ b,zdA (bt f2 j) = b := ⟨_,rfl⟩
    rw [hbw] at hw
    have HBW := Lib.hid (show zpP (bt f2 j) = b from hbw)
    have HW := Lib.hid hw
    clear hst hw hbw
    generalize bt f2 j = ch at *
    cases b
    ·go_wp2_with (go_at_call 35;refine (HW.out _).mono ?_;rintro e w4 ⟨rfl,hb4⟩;have cx3' := zaB (zaG (zaG HX.out HBB.out) hb4) 3;simp only [gzz] at cx3')
     go_ret2
     have hres : zdR f2 f2.size 0 = j := by rw [HBL.out,HST.out,HBW.out];rfl
     refine ⟨by rw [HP.out,hres,if_pos hlt];rfl,?_⟩
     rw [HP.out,hres,if_pos hlt]
     have HE2 := HEND.out.trans (hb4.mono HEND.out.size)
     exact zdU ((HB.out.below HBB.out).below hb4) (zcT HE2 hB0) (zeB.below HE2)
    ·go_wp2_with (go_at_call 35;refine (HW.out _).mono ?_;rintro e w4 ⟨rfl,hb4⟩)
     go_roundw
     case rel => exact ⟨j + 1,by omega,by go_num,hB.trans (hb4.mono hB.size),by rw [HBL.out,HST.out,HBW.out];rfl⟩
     case measure => simp [intOf];omega
   ·obtain rfl : j = f2.size := by omega
    have hlt1 : ¬ (f2.size : Int) < (f2.size : Int) := by omega
    go_wp2
    go_ret2
    have hres : ¬ zdR f2 f2.size 0 < f2.size := by rw [HBL.out,Nat.sub_self];simp [zdR]
    refine ⟨by rw [HP.out,if_neg hres];rfl,?_⟩
    rw [HP.out,if_neg hres]
    exact zdU (HB.out.below HBB.out) (zcT HEND.out hB0) (zeB.below HEND.out)
 | true =>
  have HMM := Lib.hid hmm
  rw [hmm] at HM
  clear hmm
  go_enter Try.func92,Try.ntmps92
  go_wp2_with (go_at_call 104;(with_reducible refine (HM.out _ HB.out).mono ?_);rintro e w2 ⟨rfl,hb2⟩;have cx2 := zaB (zaG HX.out hb2) 2;have cx3 := zaB (zaG HX.out hb2) 3;simp only [gzz] at cx2 cx3)
  have HW2 := Lib.hid (HB1.out.trans (hb2.mono HB1.out.size))
  refine (zwJ B0 g m (.slice A s.row.length c) vt s ⟨46,f2,f3,1⟩ w2 (Nat.le_trans hB0 HW2.out.size) (by omega) (by omega) (HB.out.below hb2)).mono ?_
  rintro e W2 ⟨rfl,vt2,hbb,hl2,hk2⟩
  replace hbb : BAt W2 B0 g m (.slice A s.row.length c) vt2 ⟨kidP s.row,s.t ++ [⟨46,f2,f3,1⟩]⟩ := hbb
  obtain ⟨E,hE⟩ : ∃ E,(addP s ⟨46,f2,f3,1⟩).2 = E := ⟨_,rfl⟩
  rw [hE]
  have HE := Lib.hid (show (if 2000 < s.t.length + 1 then (4 : Int) else 0) = E from hE)
  have hX2 : W2.heap[w.heap.size]? = some (.cells #[.int .i64 f0,.int .u8 k,.string f2,.int .i64 f3] 47 (0,0)) := hk2 _ _ (zaG HX.out hb2) rfl
  have hR : (kidP s.row).length = s.row.length := zhJ _
  have hkb2 := zlV HKB.out
  obtain ⟨r1,hr1⟩ : ∃ r1,kidP s.row = r1 := ⟨_,rfl⟩
  rw [hr1] at hbb hR hkb2
  rw [← hR] at hbb
  have HR1 := Lib.hid hr1
  have HLR := Lib.hid hR
  have hrl : r1.length ≤ 999999 := by omega
  have HK2 := Lib.hid hbb
  have HL2 := Lib.hid ((zcT HW2.out hB0).trans hl2)
  have HE2 := Lib.hid ((zeB.below HW2.out).trans hk2)
  have HX2 := Lib.hid hX2
  have HKB2 := Lib.hid hkb2
  have d0 := zaB hbb.blk 0
  have y2 := zaB hX2 2
  have y3 := zaB hX2 3
  simp only [gzz] at d0 y2 y3
  clear hE hR hr1 hbb hX2 hkb2 hl2 hk2 hb2 cx2 cx3 HX HB1 HW2 HM
  have hs2 := fun A' (hA : A' = A) => zgC B0 A c r1 _ _ finds_n W2 (by omega) HKB2.out HK2.out.row
  have hac := hs2 A rfl
  clear hs2
  cases hA : zbJ [110] r1 r1.length with
  | none =>
   rw [hA] at hac
   have HAC := Lib.hid hac
   clear hac
   have HO := Lib.hid (show zdW s ⟨f0,k,f2,f3⟩ = (⟨r1,s.t ++ [⟨46,f2,f3,1⟩]⟩,f3,E) from by
    unfold zdW
    simp only [HMM.out,if_true,HR1.out,hA,HE.out])
   go_wp2_with (go_at_call 133;(with_reducible refine HAC.out.mono ?_);rintro e W2 ⟨rfl,rfl⟩;simp only [ptrO])
   go_ret2
   refine ⟨by rw [HO.out];rfl,?_⟩
   rw [HO.out]
   exact zdU HK2.out HL2.out HE2.out
  | some j =>
   have hjl := ziF _ _ _ _ hA
   obtain ⟨gr,ca,hae,hao⟩ := zfP HK2.out.row (by show 0 < r1.length;omega)
   simp only [Value.slice.injEq] at hae
   obtain ⟨rfl,-,rfl⟩ := hae
   rw [hA] at hac
   have HAC := Lib.hid hac
   obtain ⟨W3,hW3⟩ : ∃ W3,W2.drew = W3 := ⟨_,rfl⟩
   have hK3 : BAt W3 B0 g m (.slice (some ⟨gr,0,none⟩) r1.length c) vt2 ⟨r1,s.t ++ [⟨46,f2,f3,1⟩]⟩ := by rw [← hW3];exact HK2.out.below (zaJ (Below.refl _ _))
   have hX3 : W3.heap[w.heap.size]? = some (.cells #[.int .i64 f0,.int .u8 k,.string f2,.int .i64 f3] 47 (0,0)) := by rw [← hW3];exact HX2.out
   have hL3 : Below B0 w W3 := by rw [← hW3];exact zaJ HL2.out
   have hE3 : zeB w W3 := by rw [← hW3];exact HE2.out.drew
   have q6 := zdE hK3.row j 6 hjl (by omega)
   have z6 := World.ownsRow.frozenAt hK3.row (j * 7 + 6)
   simp only [zcK,List.getElem?_cons_succ,List.getElem?_cons_zero] at q6
   have x2 := zaB hX3 2
   simp only [gzz] at x2
   have hse := BAt.setO (s := ⟨r1,s.t ++ [⟨46,f2,f3,1⟩]⟩) hK3 j 6 hjl (by omega) (zgJ f2.size) (.int .i64 (wrap64 ((r1.getD j zOpn).text + f2.size))) rfl
   have HO := Lib.hid (show zdW s ⟨f0,k,f2,f3⟩ = (⟨r1.modify j (zgJ f2.size),s.t ++ [⟨46,f2,f3,1⟩]⟩,f3,if 60 < wrap64 ((r1.getD j zOpn).text + f2.size) then 4 else E) from by
    unfold zdW
    simp only [HMM.out,if_true,HR1.out,hA]
    have hE := HE.out
    by_cases h60 : 60 < wrap64 ((r1.getD j zOpn).text + f2.size)
    ·rw [if_pos (.inl h60),if_pos h60]
    ·rw [if_neg h60,← hE]
     by_cases h2 : 2000 < s.t.length + 1
     ·rw [if_pos (.inr h2),if_pos h2]
     ·rw [if_neg (fun h => h.elim h60 h2),if_neg h2])
   obtain ⟨tx,htx⟩ : ∃ tx,(r1.getD j zOpn).text = tx := ⟨_,rfl⟩
   rw [htx] at q6 hse HO
   have ha1 : (⟨gr,j * 7 + 6,none⟩ : Addr).block ≠ w.heap.size := fun e => by
    obtain ⟨cs,hcs⟩ := zcO hK3.row gr rfl
    have e' : gr = w.heap.size := e
    rw [e',hX3] at hcs
    cases hcs
   have hX4 := zeV hX3 (p := ⟨gr,j * 7 + 6,none⟩) (Ne.symm ha1) (.int .i64 (wrap64 (tx + f2.size)))
   have hrow6 : (W3.setCell ⟨gr,j * 7 + 6,none⟩ (.int .i64 (wrap64 (tx + f2.size)))).ownsRow B0 155 7 (.slice (some ⟨gr,0,none⟩) (r1.modify j (zgJ f2.size)).length c) (r1.modify j (zgJ f2.size)).length (zeQ (r1.modify j (zgJ f2.size))) := by
    have := hse.1.row
    unfold RowO at this
    simp only [List.length_modify] at this ⊢
    exact this
   have q6' := zdE hrow6 j 6 (by simpa using hjl) (by omega)
   have x3' := zaB hX4 3
   simp only [gzz] at x3'
   have q6'' : (W3.setCell ⟨gr,j * 7 + 6,none⟩ (.int .i64 (wrap64 (tx + f2.size)))).cell? ⟨gr,j * 7 + 6,none⟩ = some (.int .i64 (wrap64 (tx + f2.size))) := by
    rw [q6']
    have : (r1.modify j (zgJ f2.size)).getD j zOpn = zgJ f2.size (r1.getD j zOpn) := by
     rw [List.getD_eq_getElem?_getD,List.getD_eq_getElem?_getD,List.getElem?_modify,List.getElem?_eq_getElem hjl]
     simp
    simp only [zcK,List.getElem?_cons_succ,List.getElem?_cons_zero]
    rw [this]
    unfold zgJ
    rw [htx]
   have H1 := Lib.hid q6''
   have H2 := Lib.hid x3'
   have H3 := Lib.hid hse
   have HC := Lib.hid (And.intro q6 (And.intro z6 x2))
   have HL3 := Lib.hid hL3
   have HE3 := Lib.hid hE3
   clear hrow6 q6'' q6' x3' hse q6 z6 x2 hK3 hX3 hL3 hE3 hX4 ha1 hac hao htx
   go_wp2_with (go_at_call 133;(with_reducible refine HAC.out.mono ?_);rintro e W2 ⟨rfl,rfl⟩;simp only [ptrO])
   refine Go.Det.region_det (fun W => W = W3) 10 (by kernel_rfl) (by kernel_rfl) (by kernel_rfl) (by decide) hW3 ?_
   repeat
    apply Go.Det.seqW_cons
    focus
     intro W hS
     obtain rfl : W = W3 := hS
     obtain ⟨q6,z6,x2⟩ := HC.out
     go_wp2
     exact Go.Det.AtEnd.mk rfl
   refine Go.Det.seqW_nil ?_
   intro W hS
   obtain rfl : W = W3 := hS
   simp only [List.drop_succ_cons,List.drop_zero]
   obtain ⟨q6,z6,x2⟩ := HC.out
   have q7 := H1.out
   have x3 := H2.out
   clear hW3
   by_cases h60 : 60 < wrap64 (tx + f2.size)
   all_goals
    go_wp2
    go_ret2
    refine ⟨by rw [HO.out];first | (rw [if_pos h60];rfl) | (rw [if_neg (Int.not_lt.2 h60)];rfl) | (rw [if_neg h60];rfl),?_⟩
    rw [HO.out]
    exact zdU H3.out.1 (HL3.out.trans H3.out.2.1) (HE3.out.trans H3.out.2.2)
def klP (a b : Int) : Lit := .string [UInt8.ofNat a.toNat,UInt8.ofNat b.toNat]
theorem klP_inj {a b c d : Int} (a0 : 0 ≤ a) (a1 : a ≤ 255) (b0 : 0 ≤ b) (b1 : b ≤ 255) (c0 : 0 ≤ c) (c1 : c ≤ 255) (d0 : 0 ≤ d) (d1 : d ≤ 255) (h : klP a b = klP c d) : a = c ∧ b = d := by
 unfold klP at h
 simp only [Lit.string.injEq,List.cons.injEq,and_true] at h
 have e : ∀ n k : Nat,n < 256 → k < 256 → UInt8.ofNat n = UInt8.ofNat k → n = k := fun n k hn hk he => by
  have := congrArg UInt8.toNat he
  simpa [UInt8.toNat_ofNat,Nat.mod_eq_of_lt hn,Nat.mod_eq_of_lt hk] using this
 have h1 := e _ _ (by omega) (by omega) h.1
 have h2 := e _ _ (by omega) (by omega) h.2
 omega
theorem wf_u8 {a : Int} (a0 : 0 ≤ a) (a1 : a ≤ 255) : (Lit.int .u8 a).wf = true := WalkArith.wf_u8 (by omega)
theorem zyQ (a b : Int) (a0 : 0 ≤ a) (a1 : a ≤ 255) (b0 : 0 ≤ b) (b1 : b ≤ 255) : keyOf Try.prog 169 (pairV a b) = some (klP a b) := by
 have hkt : Try.prog.keyType 169 = true := by kernel_rfl
 have hc : Try.prog.cellsOf 169 = 2 := by kernel_rfl
 have hc5 : Try.prog.cellsOf 5 = 1 := by kernel_rfl
 obtain ⟨m,hm⟩ : ∃ m,Try.prog.types.size = m + 1 := ⟨Try.prog.types.size - 1,by have : 0 < Try.prog.types.size := Nat.lt_of_le_of_lt (Nat.zero_le _) yeT;omega⟩
 have wa := wf_u8 a0 a1
 have wb := wf_u8 b0 b1
 unfold keyOf pairV
 simp only [Try.underlying169]
 rw [if_pos (by simp [hkt,Value.formed,Try.underlying169,hc]),hm]
 unfold Program.keyLits
 simp only [Try.underlying169,Value.cells]
 rw [if_pos ⟨by rw [hc];rfl,by kernel_rfl⟩]
 simp [hc5,Program.keyLits,Try.underlying5,wa,wb]
 have hb : ∀ c : Int,0 ≤ c → c ≤ 255 → (Lit.int IntKind.u8 c).keyBytes = [UInt8.ofNat c.toNat] := fun c h0 h1 => by
  have e : (c % 256).toNat % 256 = c.toNat := by omega
  simp [Lit.keyBytes,bytesBE,bytesLE,IntKind.bits,e]
 simp only [keyBytes,List.flatMap_cons,List.flatMap_nil,hb a a0 a1,hb b b0 b1]
 rfl
abbrev OwnM (w : World) (m n : Nat) (D : DataW Unit) : Prop := w.ownsMap (H := Unit) Try.prog 169 (plainElem Try.prog 3) m n D
def MapF (D : DataW Unit) (f : Int → Int → Bool) : Prop := IsMap D ∧ ∀ a b : Int,0 ≤ a → a ≤ 255 → 0 ≤ b → b ≤ 255 → D.atKey (klP a b) (.lit (.int .i64 0)) = .lit (.int .i64 (if f a b then 1 else 0))
theorem yfE {D : DataW Unit} (h : IsMap D) (k : Lit) (d : DataW Unit) : IsMap (D.put k d) := by
 obtain ⟨es,rfl⟩ := h
 exact ⟨_,rfl⟩
theorem MapF.put {D : DataW Unit} {f f' : Int → Int → Bool} (h : MapF D f) (x y : Int) (x0 : 0 ≤ x) (x1 : x ≤ 255) (y0 : 0 ≤ y) (y1 : y ≤ 255) (hf : ∀ a b,f' a b = (f a b || (a == x && b == y))) : MapF (D.put (klP x y) (.lit (.int .i64 1))) f' := by
 refine ⟨yfE h.1 _ _,fun a b a0 a1 b0 b1 => ?_⟩
 by_cases e : a = x ∧ b = y
 ·obtain ⟨rfl,rfl⟩ := e
  rw [atKey_put_same h.1 (by trivial),hf]
  simp
 rw [atKey_put_other (fun hk => e (klP_inj a0 a1 b0 b1 x0 x1 y0 y1 hk)),h.2 a b a0 a1 b0 b1,hf]
 have : (a == x && b == y) = false := by
  rw [Bool.and_eq_false_iff]
  by_cases ea : a = x
  ·right;exact beq_eq_false_iff_ne.2 fun eb => e ⟨ea,eb⟩
  left;exact beq_eq_false_iff_ne.2 ea
 rw [this,Bool.or_false]
def inK (s : ByteArray) (n : Nat) (c : Int) : Bool := (List.range n).any fun j => c == bt s (j : Int)
theorem zyR (s : ByteArray) (n : Nat) (c : Int) : inK s (n + 1) c = (inK s n c || c == bt s (n : Int)) := by
 unfold inK
 rw [List.range_succ,List.any_append]
 simp
def putF (i o : ByteArray) (f : Int → Int → Bool) : Int → Int → Bool := fun a b => f a b || (inK i i.size a && inK o o.size b)
def PutTo (m n : Nat) (f : Int → Int → Bool) (w w' : World) : Prop := ∃ D,OwnM w' m n D ∧ MapF D f ∧ w.grownBy w' (some m)
theorem ziV {a b c : World} {row : Option Nat} (h : a.grownBy b row) (k : b.grownBy c row) : a.grownBy c row :=
 ⟨k.os.trans h.os,k.tape.trans h.tape,k.output.trans h.output,Nat.le_trans h.size k.size,fun i hi hne => (k.block i (Nat.lt_of_lt_of_le hi h.size) hne).trans (h.block i hi hne)⟩
theorem zgQ {a b : World} (h : Below a.heap.size a b) (row : Option Nat) : a.grownBy b row := ziD h row
theorem ztR {a b : World} {m : Nat} (h : a.grownBy b (some m)) {p : Addr} {v : Value} (hc : a.cell? p = some v) (hp : p.block ≠ m) : b.cell? p = some v := by
 have hlt := World.block_lt_of_cell? a p hc
 have := h.block p.block hlt (fun e => hp (Option.some.inj e))
 obtain ⟨pb,po,ps⟩ := p
 simp only [World.cell?] at hc ⊢
 simp only at this
 rw [this]
 exact hc
set_option pp.maxSteps 3000 in
theorem zjG (i o : ByteArray) (hi : i.size ≤ 100) (ho : o.size ≤ 100) (O m n : Nat) (D : DataW Unit) (f : Int → Int → Bool) (w : World) (hO : w.heap[O]? = some (.cells #[.map (some m)] 102 (0,0))) (hm : OwnM w m n D) (hn : n ≤ 1000000) (hf : MapF D f) :
  Calls Try.prog 162 #[.string i,.string o,.pointer (some ⟨O,0,none⟩)] w fun e w' => e = .returned (.tuple #[]) ∧ PutTo m (n + 10100) (putF i o f) w w' := by
 have hne : O ≠ m := fun e => by
  obtain ⟨es,clock,hb,_⟩ := hm
  subst e
  rw [hb] at hO
  cases hO
 obtain ⟨C,W1,hcv,hb1,hcs⟩ := zlU i w
 have hwm : w.heap.size ≠ m := fun e => by have := hm.lt;omega
 have HM := Lib.hid hm
 have HO := Lib.hid hO
 have HF := Lib.hid hf
 have HCS := Lib.hid hcs
 have HB1 := Lib.hid hb1
 have HNE := Lib.hid hne
 have HWM := Lib.hid hwm
 have HCO := Lib.hid (fun W => zlU o W)
 clear hm hO hf hcs hb1 hne hwm
 go_enter Try.func162,Try.ntmps162
 go_wp2
 clear hcv
 go_loopw [12] (fun v wr => ∃ J : Nat,J ≤ i.size ∧ v = .int .i64 J ∧ W1.grownBy wr (some m) ∧ PutTo m (n + J * 101) (fun a b => f a b || (inK i J a && inK o o.size b)) w wr) (fun v _ => i.size - (intOf v).toNat)
 case atStart =>
  refine ⟨0,Nat.zero_le _,rfl,zgQ (Below.refl _ _) _,D,HM.out.kept (zgQ HB1.out none) (by simp),?_,zgQ HB1.out _⟩
  simpa [inK] using HF.out
 case round =>
  obtain ⟨J,hJ,rfl,hg1,D1,hm1,hf1,hgw⟩ := hrel
  by_cases hlt : J < i.size
  ·have hlt1 : (J : Int) < (i.size : Int) := by omega
   have q0 := ztR hg1 (HCS.out J hlt) HWM.out
   have hbr := zfZ i J
   obtain ⟨x,hx⟩ : ∃ x,bt i (J : Int) = x := ⟨_,rfl⟩
   rw [hx] at q0 hbr
   have HXX := Lib.hid hx
   obtain ⟨C2,W2,hcv2,hb2,hcs2⟩ := HCO.out wr
   have hm2 := hm1.kept (zgQ hb2 none) (by simp)
   have hwm2 : wr.heap.size ≠ m := fun e => by have := hm1.lt;omega
   have H1 := Lib.hid hg1
   have H2 := Lib.hid hm2
   have H3 := Lib.hid hf1
   have H4 := Lib.hid hgw
   have H5 := Lib.hid hcs2
   have H6 := Lib.hid hb2
   have H7 := Lib.hid hwm2
   clear hx hg1 hm1 hf1 hgw hcs2 hb2 hm2 hwm2
   go_wp2
   clear hcv2 q0
   obtain ⟨wo,rfl⟩ : ∃ wo : World,wo = wr := ⟨_,rfl⟩
   go_loopw [19] (fun v wr => ∃ K : Nat,K ≤ o.size ∧ v = .int .i64 K ∧ W2.grownBy wr (some m) ∧ PutTo m (n + J * 101 + K) (fun a b => (f a b || (inK i J a && inK o o.size b)) || (a == x && inK o K b)) w wr) (fun v _ => o.size - (intOf v).toNat)
   case atStart =>
    refine ⟨0,Nat.zero_le _,rfl,zgQ (Below.refl _ _) _,D1,H2.out,?_,ziV H4.out (zgQ H6.out _)⟩
    simpa [inK] using H3.out
   case round =>
    obtain ⟨K,hK,rfl,hg3,D3,hm3,hf3,hgw3⟩ := hrel
    by_cases hkt : K < o.size
    ·have hkt1 : (K : Int) < (o.size : Int) := by omega
     have p0 := ztR hg3 (H5.out K hkt) H7.out
     have hbr2 := zfZ o K
     obtain ⟨y,hy⟩ : ∃ y,bt o (K : Int) = y := ⟨_,rfl⟩
     rw [hy] at p0 hbr2
     have HYY := Lib.hid hy
     have hoc := zaB (zbS HO.out hgw3 (fun e => HNE.out (Option.some.inj e))) 0
     simp only [List.getElem?_toArray,List.getElem?_cons_zero] at hoc
     have hm9 : OwnM wr m (n + J * 101 + K) D3 := hm3
     have G1 := Lib.hid hg3
     have G2 := Lib.hid hm9
     have G3 := Lib.hid hf3
     have G4 := Lib.hid hgw3
     clear hy hg3 hm3 hf3 hgw3 hm9
     have hkey := zyQ x y hbr.1 hbr.2 hbr2.1 hbr2.2
     go_wp2_with (at_mapUpdate;refine wpList_mapUpdate_own _ rfl _ _ _ 102 rfl 169 3 yeU Try.underlying102 _ m (n + J * 101 + K) _ rfl G2.out (by unfold maxLen;omega) _ _ _ rfl rfl hkey _ [] (plainElem_int (a := 1) Try.underlying3 (by decide)) ?_;intro w5 hown5 hgrow5)
     go_roundw
     case rel =>
      refine ⟨K + 1,by omega,by go_num,ziV G1.out hgrow5,_,hown5,?_,ziV G4.out hgrow5⟩
      refine MapF.put G3.out x y hbr.1 hbr.2 hbr2.1 hbr2.2 fun a b => ?_
      rw [zyR,HYY.out]
      cases (f a b || inK i J a && inK o o.size b) <;> cases (a == x) <;> simp
     case measure => simp [intOf];omega
    ·obtain rfl : K = o.size := by omega
     have hkt1 : ¬ (o.size : Int) < (o.size : Int) := by omega
     have G1 := Lib.hid hg3
     have G2 := Lib.hid hm3
     have G3 := Lib.hid hf3
     have G4 := Lib.hid hgw3
     clear hg3 hm3 hf3 hgw3
     go_wp2
     go_roundw
     case rel =>
      refine ⟨J + 1,by omega,by go_num,ziV (ziV H1.out (zgQ H6.out _)) G1.out,_,G2.out.mono (by omega),?_,G4.out⟩
      refine ⟨G3.out.1,fun a b a0 a1 b0 b1 => ?_⟩
      have hh := G3.out.2 a b a0 a1 b0 b1
      dsimp only at hh ⊢
      have hbq : (f a b || inK i J a && inK o o.size b || a == x && inK o o.size b) = (f a b || inK i (J + 1) a && inK o o.size b) := by
       rw [zyR,HXX.out]
       cases f a b <;> cases inK i J a <;> cases (a == x) <;> cases inK o o.size b <;> rfl
      rw [hh]
      simp only [hbq]
     case measure => simp [intOf];omega
  ·obtain rfl : J = i.size := by omega
   have hlt1 : ¬ (i.size : Int) < (i.size : Int) := by omega
   have H1 := Lib.hid hg1
   have H2 := Lib.hid hm1
   have H3 := Lib.hid hf1
   have H4 := Lib.hid hgw
   clear hg1 hm1 hf1 hgw
   go_wp2
   refine bodyPost_end (results_none rfl _ _ _) rfl ?_
   exact ⟨rfl,D1,H2.out.mono (by omega),H3.out,H4.out⟩
theorem zgE (s : ByteArray) (ks : List Int) (h : ∀ c : Fin 256,inK s s.size (c.val : Int) = ks.contains (c.val : Int)) (c : Int) (c0 : 0 ≤ c) (c1 : c ≤ 255) : inK s s.size c = ks.contains c := by
 have := h ⟨c.toNat,by omega⟩
 simpa [Int.toNat_of_nonneg c0] using this
theorem in1 : ∀ c : Fin 256,inK ⟨#[0]⟩ 1 (c.val : Int) = ([0] : List Int).contains (c.val : Int) := by decide +kernel
theorem in2 : ∀ c : Fin 256,inK ⟨#[49,50,51,112,108,116,107]⟩ 7 (c.val : Int) = ([49,50,51,112,108,116,107] : List Int).contains (c.val : Int) := by decide +kernel
theorem in3 : ∀ c : Fin 256,inK ⟨#[49,50,51,112,99,110,101,115,105]⟩ 9 (c.val : Int) = ([49,50,51,112,99,110,101,115,105] : List Int).contains (c.val : Int) := by decide +kernel
theorem in4 : ∀ c : Fin 256,inK ⟨#[46,101,115,110]⟩ 4 (c.val : Int) = ([46,101,115,110] : List Int).contains (c.val : Int) := by decide +kernel
theorem in5 : ∀ c : Fin 256,inK ⟨#[105]⟩ 1 (c.val : Int) = ([105] : List Int).contains (c.val : Int) := by decide +kernel
theorem in6 : ∀ c : Fin 256,inK ⟨#[108]⟩ 1 (c.val : Int) = ([108] : List Int).contains (c.val : Int) := by decide +kernel
theorem in7 : ∀ c : Fin 256,inK ⟨#[116]⟩ 1 (c.val : Int) = ([116] : List Int).contains (c.val : Int) := by decide +kernel
theorem in8 : ∀ c : Fin 256,inK ⟨#[114]⟩ 1 (c.val : Int) = ([114] : List Int).contains (c.val : Int) := by decide +kernel
theorem in9 : ∀ c : Fin 256,inK ⟨#[99]⟩ 1 (c.val : Int) = ([99] : List Int).contains (c.val : Int) := by decide +kernel
def fAll : Int → Int → Bool :=
 putF ⟨#[114]⟩ ⟨#[99]⟩ (putF ⟨#[116]⟩ ⟨#[114]⟩ (putF ⟨#[108]⟩ ⟨#[105]⟩ (putF ⟨#[105]⟩ ⟨#[108]⟩ (putF ⟨#[49,50,51,112,99,110,101,115,105]⟩ ⟨#[46,101,115,110]⟩ (putF ⟨#[0]⟩ ⟨#[49,50,51,112,108,116,107]⟩ fun _ _ => false)))))
theorem fAll_ok (a b : Int) (a0 : 0 ≤ a) (a1 : a ≤ 255) (b0 : 0 ≤ b) (b1 : b ≤ 255) : fAll a b = okP a b := by
 unfold fAll putF okP
 rw [zgE _ [0] in1 a a0 a1,zgE _ _ in2 b b0 b1,zgE _ _ in3 a a0 a1,zgE _ _ in4 b b0 b1,zgE _ [105] in5 a a0 a1,zgE _ [108] in6 b b0 b1,zgE _ [108] in6 a a0 a1,zgE _ [105] in5 b b0 b1,
  zgE _ [116] in7 a a0 a1,zgE _ [114] in8 b b0 b1,zgE _ [114] in8 a a0 a1,zgE _ [99] in9 b b0 b1]
 have e : ∀ x c : Int,([x] : List Int).contains c = (c == x) := fun x c => by simp;rfl
 simp only [e,Bool.false_or]
theorem yhZ {W : World} {m n : Nat} {D : DataW Unit} (h : OwnM W m n D) (hf : MapF D fAll) : zlP W m :=
 ⟨n,D,h,fun a b a0 a1 b0 b1 => ⟨klP a b,zyQ a b a0 a1 b0 b1,by rw [hf.2 a b a0 a1 b0 b1,fAll_ok a b a0 a1 b0 b1];rfl⟩⟩
set_option pp.maxSteps 3000 in
theorem zsC (w : World) : Calls Try.prog 131 #[] w fun e w' => e = .returned (.map (some w.heap.size)) ∧ zlP w' w.heap.size ∧ Below w.heap.size w w' := by
 have hmm := @run_makeMap Try.prog
 have hm0 : OwnM (w.alloc (.map #[] 0)) w.heap.size 0 (.map []) := World.ownsMap_made _ _ _ _
 have hm1 := hm0.alloc (.cells #[.map (some w.heap.size)] 102)
 have hO1 : ((w.alloc (.map #[] 0)).alloc (.cells #[.map (some w.heap.size)] 102)).heap[w.heap.size + 1]? = some (.cells #[.map (some w.heap.size)] 102 (0,0)) := by
  have := zbW (w.alloc (.map #[] 0)) (.cells #[.map (some w.heap.size)] 102)
  simpa using this
 have hb1 : Below w.heap.size w ((w.alloc (.map #[] 0)).alloc (.cells #[.map (some w.heap.size)] 102)) := ((Below.refl _ _).alloc (Nat.le_refl _) _).alloc (by simp) _
 have hf0 : MapF (.map [] : DataW Unit) fun _ _ => false := ⟨isMap_empty,fun a b _ _ _ _ => rfl⟩
 have HM := Lib.hid hm1
 have HO := Lib.hid hO1
 have HB := Lib.hid hb1
 clear hm0 hm1 hO1 hb1
 go_enter Try.func131,Try.ntmps131
 go_wp2_with fail
 have hsz : w.heap.size ≤ w.heap.size := Nat.le_refl _
 refine (zjG ⟨#[0]⟩ ⟨#[49,50,51,112,108,116,107]⟩ (by decide) (by decide) (w.heap.size + 1) w.heap.size 0 _ _ _ HO.out HM.out (by omega) hf0).mono ?_
 rintro e w1 ⟨rfl,D1,hm1,hf1,hg1⟩
 clear HM hmm
 have HO1 := Lib.hid (zbS HO.out hg1 (by simp))
 have c1 := zaB HO1.out 0
 simp only [List.getElem?_toArray,List.getElem?_cons_zero] at c1
 have HB1 := Lib.hid (zeT HB.out _ HB.out.size hg1 (by intro k hk;cases hk;exact Nat.le_refl _))
 have HM1 := Lib.hid hm1
 have HF1 := Lib.hid hf1
 clear hm1 hf1 hg1 hf0
 go_wp2_with fail
 refine (zjG ⟨#[49,50,51,112,99,110,101,115,105]⟩ ⟨#[46,101,115,110]⟩ (by decide) (by decide) (w.heap.size + 1) w.heap.size 10100 _ _ _ HO1.out HM1.out (by omega) HF1.out).mono ?_
 rintro e w2 ⟨rfl,D2,hm2,hf2,hg2⟩
 have HO2 := Lib.hid (zbS HO1.out hg2 (by simp))
 clear c1
 have c2 := zaB HO2.out 0
 simp only [List.getElem?_toArray,List.getElem?_cons_zero] at c2
 have HB2 := Lib.hid (zeT HB1.out _ HB1.out.size hg2 (by intro k hk;cases hk;exact Nat.le_refl _))
 have HM2 := Lib.hid hm2
 have HF2 := Lib.hid hf2
 clear hm2 hf2 hg2
 go_wp2_with fail
 refine (zjG ⟨#[105]⟩ ⟨#[108]⟩ (by decide) (by decide) (w.heap.size + 1) w.heap.size 20200 _ _ _ HO2.out HM2.out (by omega) HF2.out).mono ?_
 rintro e w3 ⟨rfl,D3,hm3,hf3,hg3⟩
 have HO3 := Lib.hid (zbS HO2.out hg3 (by simp))
 clear c2
 have c3 := zaB HO3.out 0
 simp only [List.getElem?_toArray,List.getElem?_cons_zero] at c3
 have HB3 := Lib.hid (zeT HB2.out _ HB2.out.size hg3 (by intro k hk;cases hk;exact Nat.le_refl _))
 have HM3 := Lib.hid hm3
 have HF3 := Lib.hid hf3
 clear hm3 hf3 hg3
 go_wp2_with fail
 refine (zjG ⟨#[108]⟩ ⟨#[105]⟩ (by decide) (by decide) (w.heap.size + 1) w.heap.size 30300 _ _ _ HO3.out HM3.out (by omega) HF3.out).mono ?_
 rintro e w4 ⟨rfl,D4,hm4,hf4,hg4⟩
 have HO4 := Lib.hid (zbS HO3.out hg4 (by simp))
 clear c3
 have c4 := zaB HO4.out 0
 simp only [List.getElem?_toArray,List.getElem?_cons_zero] at c4
 have HB4 := Lib.hid (zeT HB3.out _ HB3.out.size hg4 (by intro k hk;cases hk;exact Nat.le_refl _))
 have HM4 := Lib.hid hm4
 have HF4 := Lib.hid hf4
 clear hm4 hf4 hg4
 go_wp2_with fail
 refine (zjG ⟨#[116]⟩ ⟨#[114]⟩ (by decide) (by decide) (w.heap.size + 1) w.heap.size 40400 _ _ _ HO4.out HM4.out (by omega) HF4.out).mono ?_
 rintro e w5 ⟨rfl,D5,hm5,hf5,hg5⟩
 have HO5 := Lib.hid (zbS HO4.out hg5 (by simp))
 clear c4
 have c5 := zaB HO5.out 0
 simp only [List.getElem?_toArray,List.getElem?_cons_zero] at c5
 have HB5 := Lib.hid (zeT HB4.out _ HB4.out.size hg5 (by intro k hk;cases hk;exact Nat.le_refl _))
 have HM5 := Lib.hid hm5
 have HF5 := Lib.hid hf5
 clear hm5 hf5 hg5
 go_wp2_with fail
 refine (zjG ⟨#[114]⟩ ⟨#[99]⟩ (by decide) (by decide) (w.heap.size + 1) w.heap.size 50500 _ _ _ HO5.out HM5.out (by omega) HF5.out).mono ?_
 rintro e w6 ⟨rfl,D6,hm6,hf6,hg6⟩
 have HO6 := Lib.hid (zbS HO5.out hg6 (by simp))
 clear c5
 have c6 := zaB HO6.out 0
 simp only [List.getElem?_toArray,List.getElem?_cons_zero] at c6
 have HB6 := Lib.hid (zeT HB5.out _ HB5.out.size hg6 (by intro k hk;cases hk;exact Nat.le_refl _))
 have HM6 := Lib.hid hm6
 have HF6 := Lib.hid hf6
 clear hm6 hf6 hg6
 go_wp2
 go_ret
 exact ⟨rfl,yhZ HM6.out HF6.out,HB6.out⟩
theorem zsD (w : World) : Calls Try.prog 91 #[] w fun e w' => ∃ g m,e = .returned (.pointer (some ⟨g,0,none⟩)) ∧ BAt w' w.heap.size g m (.slice none 0 0) (.slice none 0 0) bld0 ∧ Below w.heap.size w w' := by
 have key : Calls Try.prog 91 #[] w fun e w' => ∃ w1,zlP w1 w.heap.size ∧ Below w.heap.size w w1 ∧ e = .returned (.pointer (some ⟨w1.heap.size,0,none⟩)) ∧ w' = w1.alloc (.cells #[.slice none 0 0,.slice none 0 0,.map (some w.heap.size)] 104) := by
  have HP : ∀ (P : Ending → World → Prop),(∀ e w',(e = .returned (.map (some w.heap.size)) ∧ zlP w' w.heap.size ∧ Below w.heap.size w w') → P e w') → Calls Try.prog 131 #[] w P := fun P hP => (zsC w).mono hP
  go_enter Try.func91,Try.ntmps91
  go_wp2_with fail
  refine (zsC w).mono ?_
  rintro e w1 ⟨rfl,hm,hb⟩
  have HM := Lib.hid hm
  have HB := Lib.hid hb
  clear hm hb
  go_wp2
  go_ret
  exact ⟨w1,HM.out,HB.out,rfl,rfl⟩
 refine key.mono ?_
 rintro e w' ⟨w1,hm,hb,rfl,rfl⟩
 refine ⟨_,_,rfl,⟨hb.size,zbW w1 _,zvJ _ _ _ _,zvJ _ _ _ _,zhU hm fun o ho => zcE ho _⟩,hb.alloc hb.size _⟩
end Go.Proofs.Ythcmfjpheanphaa.Pr
namespace Go.Proofs.Ythcmfjpheanphaa.Pr
open Go.RowKit Go.Proofs.YthcmfjpheanphaaW.PrintWords Go.Proofs.YthcmfjpheanphaaW.PrintLast Go.Proofs.YthcmfjpheanphaaW.PrintMore
attribute [local go_sem] zaX zaY zbG zbI zaV zaW zaZ zbA
theorem eqA47 (d : Nat) (w : World) (x0 y0 : Int) (x1 y1 : Int) (x2 y2 : ByteArray) (x3 y3 : Int) :
  (Op.equalIn (d + 2) 47 (.agg #[.int .i64 x0,.int .u8 x1,.string x2,.int .i64 x3]) (.agg #[.int .i64 y0,.int .u8 y1,.string y2,.int .i64 y3])).run Try.prog w = .ok (x0 == y0 && (x1 == y1 && (x2.toList == y2.toList && (x3 == y3)))) w := by
 refine yeL Try.underlying47 (by kernel_rfl) ?_
 refine zoN (by rfl) (by go_simp;rfl) (by go_simp;rfl) (by go_simp) ?_
 refine zoN (by rfl) (by go_simp;rfl) (by go_simp;rfl) (by go_simp) ?_
 refine zoN (by rfl) (by go_simp;rfl) (by go_simp;rfl) (by go_simp) ?_
 exact zyL (by rfl) (by go_simp;rfl) (by go_simp;rfl) (by go_simp)
end Go.Proofs.Ythcmfjpheanphaa.Pr
namespace Go.Proofs.Ythcmfjpheanphaa.Pr
open Go.RowKit Go.Proofs.YthcmfjpheanphaaW.PrintWords
def zaT (t : ByteArray) : Nat → Nat → Nat
 | 0,q => q
 | d + 1,q => if q < t.size ∧ zcX (bt t (q : Int)) = true then zaT t d (q + 1) else q
theorem zjS (t : ByteArray) : ∀ d q,¬ (q < t.size ∧ zcX (bt t (q : Int)) = true) → zaT t d q = q
 | 0,_,_ => rfl
 | d + 1,q,h => by simp only [zaT];rw [if_neg h]
theorem zmK (t : ByteArray) : ∀ d q,q ≤ t.size → zaT t d q ≤ t.size
 | 0,q,h => h
 | d + 1,q,h => by
  simp only [zaT]
  split
  ·rename_i hc;exact zmK t d (q + 1) (by omega)
  exact h
def zdG (t : ByteArray) (at_ : Int) : Spot :=
 if bt t 0 = 123 then zlT t at_
 else if bt t 0 = 125 then ⟨⟨3,0,⟨#[]⟩,at_⟩,1,0⟩
 else if zaT t t.size 0 = 0 then ⟨⟨0,0,⟨#[]⟩,0⟩,0,3⟩
 else ⟨⟨1,0,t.extract 0 (zaT t t.size 0),at_⟩,((zaT t t.size 0 : Nat) : Int),0⟩
set_option pp.maxSteps 3000 in
theorem ydF (t : ByteArray) (at_ : Int) (h1 : 1 ≤ t.size) (ht : t.size ≤ 1000000) (w : World) :
  Calls Try.prog 130 #[.string t,.int .i64 at_] w fun e w' => e = .returned (ziH (zdG t at_)) ∧ Below w.heap.size w w' := by
 have hblk : ∀ W,Below (w.alloc (.cells #[.int .i64 0,.int .u8 0,.string ⟨#[]⟩,.int .i64 0,.int .i64 0,.int .i64 0] 87)).heap.size (w.alloc (.cells #[.int .i64 0,.int .u8 0,.string ⟨#[]⟩,.int .i64 0,.int .i64 0,.int .i64 0] 87)) W → W.heap[w.heap.size]? = some (.cells #[.int .i64 0,.int .u8 0,.string ⟨#[]⟩,.int .i64 0,.int .i64 0,.int .i64 0] 87 (0,0)) := fun W hW =>
  (hW.block w.heap.size (by simp)).trans (zbW w (.cells #[.int .i64 0,.int .u8 0,.string ⟨#[]⟩,.int .i64 0,.int .i64 0,.int .i64 0] 87))
 have hB0 : Below w.heap.size w (w.alloc (.cells #[.int .i64 0,.int .u8 0,.string ⟨#[]⟩,.int .i64 0,.int .i64 0,.int .i64 0] 87)) := (Below.refl _ w).alloc (Nat.le_refl _) _
 have HK := Lib.hid hblk
 clear hblk
 have hg0 : ((t[0].toNat : Nat) : Int) = bt t 0 := zfI t 0 (by simp;omega)
 have hop := fun w => zxX t at_ h1 ht w
 obtain ⟨r,hr0⟩ : ∃ r,zdG t at_ = r := ⟨_,rfl⟩
 rw [hr0]
 unfold zdG at hr0
 by_cases h123 : bt t 0 = 123
 ·rw [if_pos h123] at hr0
  have hg1 : ((t[0].toNat : Nat) : Int) = 123 := hg0.trans h123
  have HO := Lib.hid hop
  clear hg0 h123 hop
  rw [hr0] at HO
  clear hr0
  go_enter Try.func130,Try.ntmps130
  go_wp2_with (first | (go_at_call 160;refine (HO.out _).mono ?_;rintro e w' ⟨rfl,hb⟩;unfold ziH) | (refine wpList_store_row rfl 87 (.tmp 4) (.tmp 12) rfl w.heap.size _ rfl rfl 87 _ (HK.out _ hb) ?h1 ?h2 ?h3 ?h4))
  case h1 => kernel_rfl
  case h2 => rfl
  case h3 => simp [Value.oneCell']
  case h4 =>
   go_wp2
   refine bodyPost_ret (results_cell_row rfl _ _ w.heap.size 87 _ (0,0) _ rfl (setRow_heap _ _ _ _ _ _ (HK.out _ hb)) Try.underlying87 rfl (by kernel_rfl)) rfl ⟨rfl,?_⟩
   exact Go.Det.below_setRow (hB0.trans (hb.mono hB0.size)) (by omega) _
 ·rw [if_neg h123] at hr0
  clear hop
  by_cases h125 : bt t 0 = 125
  ·rw [if_pos h125] at hr0
   subst hr0
   have hg1 : ((t[0].toNat : Nat) : Int) = 125 := hg0.trans h125
   clear hg0 h123 h125
   go_enter Try.func130,Try.ntmps130
   go_wp2_with (refine wpList_store_row rfl 87 (.tmp 4) (.tmp 19) rfl w.heap.size _ rfl rfl 87 _ (HK.out _ (Below.refl _ _)) ?h1 ?h2 ?h3 ?h4)
   case h1 => kernel_rfl
   case h2 => rfl
   case h3 => simp [Value.oneCell']
   case h4 =>
    go_wp2
    refine bodyPost_ret (results_cell_row rfl _ _ w.heap.size 87 _ (0,0) _ rfl (setRow_heap _ _ _ _ _ _ (HK.out _ (Below.refl _ _))) Try.underlying87 rfl (by kernel_rfl)) rfl ⟨rfl,?_⟩
    exact Go.Det.below_setRow hB0 (by omega) _
  ·rw [if_neg h125] at hr0
   have HRs := Lib.hid hr0
   clear hr0
   have hb1 : (bt t 0 == 123) = false := beq_eq_false_iff_ne.2 h123
   have hb2 : (bt t 0 == 125) = false := beq_eq_false_iff_ne.2 h125
   generalize bt t 0 = y0 at *
   clear h123 h125
   go_enter Try.func130,Try.ntmps130
   go_wp2
   go_loopw [5] (fun v wr => ∃ (k d : Nat),k ≤ t.size ∧ v = .int .i64 k ∧ Hid (t.size ≤ d + k ∧ zaT t t.size 0 = zaT t d k) ∧ Below (w.alloc (.cells #[.int .i64 0,.int .u8 0,.string ⟨#[]⟩,.int .i64 0,.int .i64 0,.int .i64 0] 87)).heap.size (w.alloc (.cells #[.int .i64 0,.int .u8 0,.string ⟨#[]⟩,.int .i64 0,.int .i64 0,.int .i64 0] 87)) wr) (fun v _ => t.size - (intOf v).toNat)
   case atStart => exact ⟨0,t.size,by omega,rfl,Lib.hid ⟨by omega,rfl⟩,Below.refl _ _⟩
   case round =>
    obtain ⟨k,d,hk,rfl,H,hB⟩ := hrel
    have Hstop := Lib.hid (zjS t d k)
    by_cases hlt : k < t.size
    ·have hl2 : (k : Int) < (t.size : Int) := by omega
     obtain ⟨d,rfl⟩ : ∃ m,d = m + 1 := ⟨d - 1,by have := H.out.1;omega⟩
     have hr := zfZ t k
     have hgk : ((t[k].toNat : Nat) : Int) = bt t k := zfI t k (by simpa using hlt)
     have hp := fun W => yaR (bt t k) hr.1 hr.2 W
     have Hstep : Hid (zcX (bt t (k : Int)) = true → zaT t (d + 1) k = zaT t d (k + 1)) := Lib.hid (fun h => by simp only [zaT];rw [if_pos ⟨hlt,h⟩])
     generalize bt t (k : Int) = y at *
     cases hpy : zcX y with
     | true =>
      rw [hpy] at hp
      have HP := Lib.hid hp
      have HN : Hid (t.size ≤ d + (k + 1) ∧ zaT t t.size 0 = zaT t d (k + 1)) := Lib.hid ⟨by have := H.out.1;omega,H.out.2.trans (Hstep.out hpy)⟩
      clear hp hpy Hstep Hstop H
      go_wp2_with (go_at_call 161;refine (HP.out _).mono ?_;rintro e w' ⟨rfl,hb⟩)
      go_roundw
      case rel => exact ⟨k + 1,d,by omega,by go_num,HN,hB.trans (hb.mono hB.size)⟩
      case measure => simp [intOf];omega
     | false =>
      rw [hpy] at hp
      have HP := Lib.hid hp
      have HT : Hid (zaT t t.size 0 = k) := Lib.hid (H.out.2.trans (Hstop.out (fun h => by rw [hpy] at h;exact absurd h.2 (by simp))))
      clear hp hpy Hstep Hstop H
      by_cases hk0 : k = 0
      ·subst hk0
       obtain rfl : y = y0 := hgk.symm.trans hg0
       simp only [Int.natCast_zero] at *
       go_wp2_with (first | (go_at_call 161;refine (HP.out _).mono ?_;rintro e w' ⟨rfl,hb⟩;have hb2 := hB.trans (hb.mono hB.size)) | (refine wpList_store_row rfl 87 (.tmp 4) (.tmp 34) rfl w.heap.size _ rfl rfl 87 _ (HK.out _ hb2) ?h1 ?h2 ?h3 ?h4))
       case h1 => kernel_rfl
       case h2 => rfl
       case h3 => simp [Value.oneCell']
       case h4 =>
        go_wp2
        refine bodyPost_ret (results_cell_row rfl _ _ w.heap.size 87 _ (0,0) _ rfl (setRow_heap _ _ _ _ _ _ (HK.out _ hb2)) Try.underlying87 rfl (by kernel_rfl)) rfl ⟨?_,?_⟩
        ·rw [← HRs.out,if_pos HT.out];rfl
        ·exact Go.Det.below_setRow (hB0.trans (hb2.mono hB0.size)) (by omega) _
      ·have hk1 : ¬ (k : Int) = 0 := by omega
       have hk2 : ((k : Int) == 0) = false := beq_eq_false_iff_ne.2 hk1
       have hsl := fun W => Go.Det.sl_strh (P := Try.prog) Try.underlying9 t k (by omega) W
       clear hk1
       go_wp2_with (first | (go_at_call 161;refine (HP.out _).mono ?_;rintro e w' ⟨rfl,hb⟩;have hb2 := hB.trans (hb.mono hB.size)) | (refine wpList_store_row rfl 87 (.tmp 4) (.tmp 41) rfl w.heap.size _ rfl rfl 87 _ (HK.out _ hb2) ?h1 ?h2 ?h3 ?h4))
       case h1 => kernel_rfl
       case h2 => rfl
       case h3 => simp [Value.oneCell']
       case h4 =>
        go_wp2
        refine bodyPost_ret (results_cell_row rfl _ _ w.heap.size 87 _ (0,0) _ rfl (setRow_heap _ _ _ _ _ _ (HK.out _ hb2)) Try.underlying87 rfl (by kernel_rfl)) rfl ⟨?_,?_⟩
        ·rw [← HRs.out,if_neg (by rw [HT.out];exact hk0),HT.out];rfl
        ·exact Go.Det.below_setRow (hB0.trans (hb2.mono hB0.size)) (by omega) _
    ·have hl2 : ¬ (k : Int) < (t.size : Int) := by omega
     have HT : Hid (zaT t t.size 0 = k) := Lib.hid (H.out.2.trans (Hstop.out (fun h => hlt h.1)))
     have hk0 : ¬ k = 0 := by omega
     have hk1 : ¬ (k : Int) = 0 := by omega
     have hk2 : ((k : Int) == 0) = false := beq_eq_false_iff_ne.2 hk1
     have hsl := fun W => Go.Det.sl_strh (P := Try.prog) Try.underlying9 t k (by omega) W
     clear hk1 Hstop H
     go_wp2_with (first | (refine wpList_store_row rfl 87 (.tmp 4) (.tmp 41) rfl w.heap.size _ rfl rfl 87 _ (HK.out _ hB) (by kernel_rfl) rfl (by simp [Value.oneCell']) ?h4))
     case h4 =>
      go_wp2
      refine bodyPost_ret (results_cell_row rfl _ _ w.heap.size 87 _ (0,0) _ rfl (setRow_heap _ _ _ _ _ _ (HK.out _ hB)) Try.underlying87 rfl (by kernel_rfl)) rfl ⟨?_,?_⟩
      ·rw [← HRs.out,if_neg (by rw [HT.out];exact hk0),HT.out];rfl
      ·exact Go.Det.below_setRow (hB0.trans (hB.mono hB0.size)) (by omega) _
end Go.Proofs.Ythcmfjpheanphaa.Pr
