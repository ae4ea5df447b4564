/- What is proved: words for memory (a slice of numbers, a slice of rows) and small laws on them; loops as functions. No condition. -/
import Derived.Test.YtjpgjmhdjepfgaaDoorRows
import Derived.WalkKit
import Derived.BigQuiet
import Derived.Deep.QuietTactic
import Derived.Deep.LoopGhost
import Derived.Deep.Light
import Derived.Deep.Draws
import Derived.Lib.Hide
namespace Go.Proofs.YtjpgjmhdjepfgaaDoor
open Go.RowKit

/-! ### loops as functions -/
/-- all of g numbers from k on -/
def allR (p : Nat → Bool) : Nat → Nat → Bool
  | 0, _ => true
  | g + 1, k => p k && allR p g (k + 1)
/-- a state taken through g numbers from k on -/
def itR {S : Type} (f : Nat → S → S) : Nat → Nat → S → S
  | 0, _, s => s
  | g + 1, k, s => itR f g (k + 1) (f k s)
/-- the same with a way out -/
def itE {R S : Type} (f : Nat → S → Except R S) : Nat → Nat → S → Except R S
  | 0, _, s => .ok s
  | g + 1, k, s => match f k s with
    | .error r => .error r
    | .ok s' => itE f g (k + 1) s'

theorem allR_iff (p : Nat → Bool) : ∀ g k, allR p g k = true ↔ ∀ i, k ≤ i → i < k + g → p i = true
  | 0, k => by simp [allR]; intro i h1 h2; omega
  | g + 1, k => by
    rw [allR, Bool.and_eq_true, allR_iff p g (k + 1)]
    constructor
    · rintro ⟨h0, h⟩ i h1 h2
      by_cases e : i = k
      · subst e; exact h0
      · exact h i (by omega) (by omega)
    · intro h
      exact ⟨h k (Nat.le_refl _) (by omega), fun i h1 h2 => h i (by omega) (by omega)⟩
theorem allR_all (p : Nat → Bool) (n : Nat) : allR p n 0 = true ↔ ∀ i, i < n → p i = true := by
  rw [allR_iff]
  exact ⟨fun h i hi => h i (Nat.zero_le _) (by omega), fun h i _ hi => h i (by omega)⟩
theorem allR_false {p : Nat → Bool} {n : Nat} (i : Nat) (hi : i < n) (h : p i = false) : allR p n 0 = false := by
  cases e : allR p n 0 with
  | false => rfl
  | true => have := (allR_all p n).1 e i hi; rw [h] at this; cases this
theorem allR_congr {p q : Nat → Bool} (n : Nat) (h : ∀ i, i < n → p i = q i) : allR p n 0 = allR q n 0 := by
  rw [Bool.eq_iff_iff, allR_all, allR_all]
  exact ⟨fun k i hi => by rw [← h i hi]; exact k i hi, fun k i hi => by rw [h i hi]; exact k i hi⟩

/-! ### rows -/
def row (D : List (List Int)) (i : Nat) : List Int := D.getD i []
def ix (xs : List Int) (j : Nat) : Int := xs.getD j 0
def at2 (D : List (List Int)) (i j : Nat) : Int := ix (row D i) j
theorem row_of {D : List (List Int)} {i : Nat} (h : i < D.length) : row D i = D[i] := by simp [row, h]
theorem ix_of {xs : List Int} {i : Nat} (h : i < xs.length) : ix xs i = xs[i] := by simp [ix, h]
theorem ext_ix {xs ys : List Int} (h : xs.length = ys.length) (hx : ∀ i, i < xs.length → ix xs i = ix ys i) : xs = ys :=
  List.ext_getElem h fun i h1 h2 => by rw [← ix_of h1, ← ix_of h2]; exact hx i h1
theorem ext_row {D E : List (List Int)} (h : D.length = E.length) (hx : ∀ i, i < D.length → row D i = row E i) : D = E :=
  List.ext_getElem h fun i h1 h2 => by rw [← row_of h1, ← row_of h2]; exact hx i h1

/-! ### the world goes on -/
/-- of what was there nothing has turned -/
def Ext (w w' : World) : Prop := Below w.heap.size w w'
theorem Ext.refl (w : World) : Ext w w := Below.refl _ _
theorem Ext.trans {a b c : World} (h : Ext a b) (k : Ext b c) : Ext a c := Below.trans h (Below.mono k h.size)
theorem Ext.drewN (w : World) (m : Nat) : Ext w (w.drewN m) := ⟨rfl, rfl, rfl, Nat.le_refl _, fun _ _ => rfl⟩
theorem Ext.drewN' {a w : World} (h : Ext a w) (m : Nat) : Ext a (w.drewN m) := h.trans (Ext.drewN w m)
theorem Ext.alloc (w : World) (o : Obj) : Ext w (w.alloc o) := Below.alloc (Below.refl _ _) (Nat.le_refl _) o
theorem Ext.alloc' {a w : World} (h : Ext a w) (o : Obj) : Ext a (w.alloc o) := h.trans (Ext.alloc w o)
theorem Ext.size {a b : World} (h : Ext a b) : a.heap.size ≤ b.heap.size := Below.size h
theorem Ext.setCell' {a w : World} (h : Ext a w) {p : Addr} (hp : a.heap.size ≤ p.block) (u : Value) : Ext a (w.setCell p u) := Below.setCell h hp u
theorem Ext.cell {w w' : World} (h : Ext w w') {a : Addr} {v : Value} (hv : w.cell? a = some v) : w'.cell? a = some v := by
  have hb := World.block_lt_of_cell? w a hv
  rw [Below.cell h hb]; exact hv
theorem Ext.block {w w' : World} (h : Ext w w') {k : Nat} (hk : k < w.heap.size) : w'.heap[k]? = w.heap[k]? := Below.block h k hk

theorem q_ext {P : Program} {f : FuncId} {args : Array Value} {w : World} {v : Value} (h : Calls P f args w fun e w' => e = .returned v ∧ ∃ m, w' = w.drewN m) : Calls P f args w fun e w' => e = .returned v ∧ Ext w w' :=
  h.mono fun _ _ ⟨he, m, hm⟩ => ⟨he, by rw [hm]; exact Ext.drewN w m⟩
theorem same_ext {P : Program} {f : FuncId} {args : Array Value} {w : World} {v : Value} (h : Calls P f args w fun e w' => e = .returned v ∧ w' = w) : Calls P f args w fun e w' => e = .returned v ∧ Ext w w' :=
  h.mono fun _ _ ⟨he, hm⟩ => ⟨he, by rw [hm]; exact Ext.refl w⟩

/-- a slice at 'A' of capacity 'c' holds the numbers 'xs' -/
def Ints (w : World) (A : Option Addr) (c : Nat) (xs : List Int) : Prop :=
  xs.length ≤ c ∧ c ≤ maxLen ∧ ∃ b o, (0 < xs.length → A = some ⟨b, o, none⟩) ∧ ∀ j, j < xs.length → w.cell? ⟨b, o + j, none⟩ = some (.int .i64 (ix xs j))
/-- a slice of rows -/
def Mat (w : World) (A : Option Addr) (c : Nat) (D : List (List Int)) : Prop :=
  D.length ≤ c ∧ c ≤ maxLen ∧ ∃ b o, (0 < D.length → A = some ⟨b, o, none⟩) ∧ ∀ i, i < D.length → ∃ Ar cr, w.cell? ⟨b, o + i, none⟩ = some (.slice Ar (row D i).length cr) ∧ Ints w Ar cr (row D i)

theorem Ints.ext {w w' : World} {A : Option Addr} {c : Nat} {xs : List Int} (h : Ints w A c xs) (k : Ext w w') : Ints w' A c xs := by
  obtain ⟨h1, h2, b, o, hA, hc⟩ := h
  exact ⟨h1, h2, b, o, hA, fun j hj => k.cell (hc j hj)⟩
theorem Mat.ext {w w' : World} {A : Option Addr} {c : Nat} {D : List (List Int)} (h : Mat w A c D) (k : Ext w w') : Mat w' A c D := by
  obtain ⟨h1, h2, b, o, hA, hc⟩ := h
  refine ⟨h1, h2, b, o, hA, fun i hi => ?_⟩
  obtain ⟨Ar, cr, e, hr⟩ := hc i hi
  exact ⟨Ar, cr, k.cell e, hr.ext k⟩
theorem Ints.nil (w : World) (A : Option Addr) (c : Nat) (hc : c ≤ maxLen) : Ints w A c [] := ⟨Nat.zero_le _, hc, 0, 0, fun h => absurd h (by simp), fun j hj => absurd hj (by simp)⟩
theorem Mat.nil (w : World) (A : Option Addr) (c : Nat) (hc : c ≤ maxLen) : Mat w A c [] := ⟨Nat.zero_le _, hc, 0, 0, fun h => absurd h (by simp), fun j hj => absurd hj (by simp)⟩

theorem pick {T : Type} [Inhabited T] {n : Nat} {P : Nat → T → Prop} (h : ∀ i, i < n → ∃ x, P i x) : ∃ f : Nat → T, ∀ i, i < n → P i (f i) := by
  classical
  refine ⟨fun i => if hi : i < n then Classical.choose (h i hi) else default, fun i hi => ?_⟩
  simp only [dif_pos hi]
  exact Classical.choose_spec (h i hi)

/-- the rows of a matrix laid open -/
theorem Mat.parts {w : World} {A : Option Addr} {c : Nat} {D : List (List Int)} (h : Mat w A c D) :
    ∃ (b o : Nat) (R : Nat → Option Addr) (rc rb ro : Nat → Nat), (0 < D.length → A = some ⟨b, o, none⟩) ∧
      (∀ i, i < D.length → w.cell? ⟨b, o + i, none⟩ = some (.slice (R i) (row D i).length (rc i))) ∧
      (∀ i, i < D.length → (row D i).length ≤ rc i ∧ rc i ≤ maxLen) ∧
      (∀ i, i < D.length → 0 < (row D i).length → R i = some ⟨rb i, ro i, none⟩) ∧
      (∀ i, i < D.length → ∀ j, j < (row D i).length → w.cell? ⟨rb i, ro i + j, none⟩ = some (.int .i64 (at2 D i j))) ∧
      (∀ i, i < D.length → Ints w (R i) (rc i) (row D i)) := by
  obtain ⟨_, _, b, o, hA, hc⟩ := h
  have h' : ∀ i, i < D.length → ∃ x : Option Addr × Nat × Nat × Nat, w.cell? ⟨b, o + i, none⟩ = some (.slice x.1 (row D i).length x.2.1) ∧ ((row D i).length ≤ x.2.1 ∧ x.2.1 ≤ maxLen) ∧
      (0 < (row D i).length → x.1 = some ⟨x.2.2.1, x.2.2.2, none⟩) ∧ (∀ j, j < (row D i).length → w.cell? ⟨x.2.2.1, x.2.2.2 + j, none⟩ = some (.int .i64 (at2 D i j))) ∧ Ints w x.1 x.2.1 (row D i) := by
    intro i hi
    obtain ⟨Ar, cr, e, hr⟩ := hc i hi
    obtain ⟨h1, h2, rb, ro, hR, hx⟩ := id hr
    exact ⟨(Ar, cr, rb, ro), e, ⟨h1, h2⟩, hR, hx, hr⟩
  obtain ⟨f, hf⟩ := pick h'
  exact ⟨b, o, fun i => (f i).1, fun i => (f i).2.1, fun i => (f i).2.2.1, fun i => (f i).2.2.2, hA, fun i hi => (hf i hi).1, fun i hi => (hf i hi).2.1, fun i hi => (hf i hi).2.2.1, fun i hi => (hf i hi).2.2.2.1, fun i hi => (hf i hi).2.2.2.2⟩

/-- as many numbers in each row as there are rows -/
def Sq (D : List (List Int)) : Prop := ∀ i, i < D.length → (row D i).length = D.length

/-- a square of numbers laid open -/
theorem Mat.square {w : World} {A : Option Addr} {c : Nat} {D : List (List Int)} (h : Mat w A c D) (hs : Sq D) :
    ∃ (b o : Nat) (rc rb ro : Nat → Nat), (0 < D.length → A = some ⟨b, o, none⟩) ∧
      (∀ i, i < D.length → w.cell? ⟨b, o + i, none⟩ = some (.slice (some ⟨rb i, ro i, none⟩) D.length (rc i))) ∧
      (∀ i, i < D.length → D.length ≤ rc i ∧ rc i ≤ maxLen) ∧
      (∀ i, i < D.length → ∀ j, j < D.length → w.cell? ⟨rb i, ro i + j, none⟩ = some (.int .i64 (at2 D i j))) ∧
      (∀ i, i < D.length → Ints w (some ⟨rb i, ro i, none⟩) (rc i) (row D i)) := by
  obtain ⟨b, o, R, rc, rb, ro, hA, h1, h2, h3, h4, h5⟩ := h.parts
  refine ⟨b, o, rc, rb, ro, hA, fun i hi => ?_, fun i hi => ?_, fun i hi j hj => ?_, fun i hi => ?_⟩
  · rw [← h3 i hi (by rw [hs i hi]; omega), h1 i hi, hs i hi]
  · have := h2 i hi; rw [hs i hi] at this; exact this
  · exact h4 i hi j (by rw [hs i hi]; exact hj)
  · rw [← h3 i hi (by rw [hs i hi]; omega)]; exact h5 i hi

theorem ret_bool {a b : Bool} (h : a = b) : Ending.returned (.bool a) = .returned (.bool b) := by rw [h]
theorem ret_int {k : IntKind} {a b : Int} (h : a = b) : Ending.returned (.int k a) = .returned (.int k b) := by rw [h]
theorem drewN_add (w : World) (a b : Nat) : (w.drewN a).drewN b = w.drewN (a + b) := World.drewN_drewN w a b
theorem drewN_0 (w : World) : w = w.drewN 0 := rfl
theorem quiet_add {P : Program} {f : FuncId} {args : Array Value} {w : World} {a n : Nat} {v : Value}
    (h : Calls P f args (w.drewN (a + n)) fun e w' => e = .returned v ∧ ∃ m, w' = (w.drewN (a + n)).drewN m) :
    Calls P f args (w.drewN (a + n)) fun e w'' => e = .returned v ∧ ∃ m, w'' = w.drewN (a + m) :=
  h.mono fun _ _ ⟨he, m, hm⟩ => ⟨he, n + m, by rw [hm, World.drewN_drewN, Nat.add_assoc]⟩
theorem quiet_add_same {P : Program} {f : FuncId} {args : Array Value} {w : World} {a n : Nat} {v : Value}
    (h : Calls P f args (w.drewN (a + n)) fun e w' => e = .returned v ∧ w' = w.drewN (a + n)) :
    Calls P f args (w.drewN (a + n)) fun e w'' => e = .returned v ∧ ∃ m, w'' = w.drewN (a + m) :=
  h.mono fun _ _ ⟨he, hm⟩ => ⟨he, n, hm⟩
end Go.Proofs.YtjpgjmhdjepfgaaDoor
