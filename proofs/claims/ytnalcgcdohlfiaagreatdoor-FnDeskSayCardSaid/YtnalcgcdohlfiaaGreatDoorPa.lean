/- What is proved: contracts and plain laws for what the later texts lean on (Mem, Far, Space, Spec1, Help, Own, Split, Weights, Point, App, Mark, AppM, Step, Frame, Gen). Conditions: those of each. -/
import Derived.Test.YtnalcgcdohlfiaaGreatDoorRows
import Derived.WalkKit
import Derived.BigQuiet
import Derived.Deep.QuietTactic
import Derived.Deep.LoopGhost
import Derived.Deep.Light
import Derived.Deep.Draws
import Derived.Lib.Hide
import Derived.Deep.OwnRows
import Derived.OwnWalk
import Derived.Maps.AppendAt
import Derived.Deep.RegionHeld3
import Derived.ProofKit
import Derived.OpenShut
import Derived.Deep.Matrix
import Derived.WideKeyArgs
namespace Go.Proofs.YtnalcgcdohlfiaaGreatDoor
open Go.RowKit

/-! ### loops as functions -/
/-- all of g numbers from k on -/
def allR (p : Nat → Bool) : Nat → Nat → Bool
  | 0, _ => true
  | g + 1, k => p k && allR p g (k + 1)
/-- a state taken through g numbers from k on -/
def itR {S : Type} (f : Nat → S → S) : Nat → Nat → S → S
  | 0, _, s => s
  | g + 1, k, s => itR f g (k + 1) (f k s)
/-- the same with a way out -/
def itE {R S : Type} (f : Nat → S → Except R S) : Nat → Nat → S → Except R S
  | 0, _, s => .ok s
  | g + 1, k, s => match f k s with
    | .error r => .error r
    | .ok s' => itE f g (k + 1) s'

theorem allR_iff (p : Nat → Bool) : ∀ g k, allR p g k = true ↔ ∀ i, k ≤ i → i < k + g → p i = true
  | 0, k => by simp [allR]; intro i h1 h2; omega
  | g + 1, k => by
    rw [allR, Bool.and_eq_true, allR_iff p g (k + 1)]
    constructor
    · rintro ⟨h0, h⟩ i h1 h2
      by_cases e : i = k
      · subst e; exact h0
      · exact h i (by omega) (by omega)
    · intro h
      exact ⟨h k (Nat.le_refl _) (by omega), fun i h1 h2 => h i (by omega) (by omega)⟩
theorem allR_all (p : Nat → Bool) (n : Nat) : allR p n 0 = true ↔ ∀ i, i < n → p i = true := by
  rw [allR_iff]
  exact ⟨fun h i hi => h i (Nat.zero_le _) (by omega), fun h i _ hi => h i (by omega)⟩
theorem allR_false {p : Nat → Bool} {n : Nat} (i : Nat) (hi : i < n) (h : p i = false) : allR p n 0 = false := by
  cases e : allR p n 0 with
  | false => rfl
  | true => have := (allR_all p n).1 e i hi; rw [h] at this; cases this
theorem allR_congr {p q : Nat → Bool} (n : Nat) (h : ∀ i, i < n → p i = q i) : allR p n 0 = allR q n 0 := by
  rw [Bool.eq_iff_iff, allR_all, allR_all]
  exact ⟨fun k i hi => by rw [← h i hi]; exact k i hi, fun k i hi => by rw [h i hi]; exact k i hi⟩

/-! ### rows -/
def row (D : List (List Int)) (i : Nat) : List Int := D.getD i []
def ix (xs : List Int) (j : Nat) : Int := xs.getD j 0
def at2 (D : List (List Int)) (i j : Nat) : Int := ix (row D i) j
theorem row_of {D : List (List Int)} {i : Nat} (h : i < D.length) : row D i = D[i] := by simp [row, h]
theorem ix_of {xs : List Int} {i : Nat} (h : i < xs.length) : ix xs i = xs[i] := by simp [ix, h]
theorem ext_ix {xs ys : List Int} (h : xs.length = ys.length) (hx : ∀ i, i < xs.length → ix xs i = ix ys i) : xs = ys :=
  List.ext_getElem h fun i h1 h2 => by rw [← ix_of h1, ← ix_of h2]; exact hx i h1
theorem ext_row {D E : List (List Int)} (h : D.length = E.length) (hx : ∀ i, i < D.length → row D i = row E i) : D = E :=
  List.ext_getElem h fun i h1 h2 => by rw [← row_of h1, ← row_of h2]; exact hx i h1

/-! ### the world goes on -/
/-- of what was there nothing has turned -/
def Ext (w w' : World) : Prop := Below w.heap.size w w'
theorem Ext.refl (w : World) : Ext w w := Below.refl _ _
theorem Ext.trans {a b c : World} (h : Ext a b) (k : Ext b c) : Ext a c := Below.trans h (Below.mono k h.size)
theorem Ext.drewN (w : World) (m : Nat) : Ext w (w.drewN m) := ⟨rfl, rfl, rfl, Nat.le_refl _, fun _ _ => rfl⟩
theorem Ext.drewN' {a w : World} (h : Ext a w) (m : Nat) : Ext a (w.drewN m) := h.trans (Ext.drewN w m)
theorem Ext.alloc (w : World) (o : Obj) : Ext w (w.alloc o) := Below.alloc (Below.refl _ _) (Nat.le_refl _) o
theorem Ext.alloc' {a w : World} (h : Ext a w) (o : Obj) : Ext a (w.alloc o) := h.trans (Ext.alloc w o)
theorem Ext.size {a b : World} (h : Ext a b) : a.heap.size ≤ b.heap.size := Below.size h
theorem Ext.setCell' {a w : World} (h : Ext a w) {p : Addr} (hp : a.heap.size ≤ p.block) (u : Value) : Ext a (w.setCell p u) := Below.setCell h hp u
theorem Ext.cell {w w' : World} (h : Ext w w') {a : Addr} {v : Value} (hv : w.cell? a = some v) : w'.cell? a = some v := by
  have hb := World.block_lt_of_cell? w a hv
  rw [Below.cell h hb]; exact hv
theorem Ext.block {w w' : World} (h : Ext w w') {k : Nat} (hk : k < w.heap.size) : w'.heap[k]? = w.heap[k]? := Below.block h k hk

theorem q_ext {P : Program} {f : FuncId} {args : Array Value} {w : World} {v : Value} (h : Calls P f args w fun e w' => e = .returned v ∧ ∃ m, w' = w.drewN m) : Calls P f args w fun e w' => e = .returned v ∧ Ext w w' :=
  h.mono fun _ _ ⟨he, m, hm⟩ => ⟨he, by rw [hm]; exact Ext.drewN w m⟩
theorem same_ext {P : Program} {f : FuncId} {args : Array Value} {w : World} {v : Value} (h : Calls P f args w fun e w' => e = .returned v ∧ w' = w) : Calls P f args w fun e w' => e = .returned v ∧ Ext w w' :=
  h.mono fun _ _ ⟨he, hm⟩ => ⟨he, by rw [hm]; exact Ext.refl w⟩

/-- a slice at 'A' of capacity 'c' holds the numbers 'xs' -/
def Ints (w : World) (A : Option Addr) (c : Nat) (xs : List Int) : Prop :=
  xs.length ≤ c ∧ c ≤ maxLen ∧ ∃ b o, (0 < xs.length → A = some ⟨b, o, none⟩) ∧ ∀ j, j < xs.length → w.cell? ⟨b, o + j, none⟩ = some (.int .i64 (ix xs j))
/-- a slice of rows -/
def Mat (w : World) (A : Option Addr) (c : Nat) (D : List (List Int)) : Prop :=
  D.length ≤ c ∧ c ≤ maxLen ∧ ∃ b o, (0 < D.length → A = some ⟨b, o, none⟩) ∧ ∀ i, i < D.length → ∃ Ar cr, w.cell? ⟨b, o + i, none⟩ = some (.slice Ar (row D i).length cr) ∧ Ints w Ar cr (row D i)

theorem Ints.ext {w w' : World} {A : Option Addr} {c : Nat} {xs : List Int} (h : Ints w A c xs) (k : Ext w w') : Ints w' A c xs := by
  obtain ⟨h1, h2, b, o, hA, hc⟩ := h
  exact ⟨h1, h2, b, o, hA, fun j hj => k.cell (hc j hj)⟩
theorem Mat.ext {w w' : World} {A : Option Addr} {c : Nat} {D : List (List Int)} (h : Mat w A c D) (k : Ext w w') : Mat w' A c D := by
  obtain ⟨h1, h2, b, o, hA, hc⟩ := h
  refine ⟨h1, h2, b, o, hA, fun i hi => ?_⟩
  obtain ⟨Ar, cr, e, hr⟩ := hc i hi
  exact ⟨Ar, cr, k.cell e, hr.ext k⟩
theorem Ints.nil (w : World) (A : Option Addr) (c : Nat) (hc : c ≤ maxLen) : Ints w A c [] := ⟨Nat.zero_le _, hc, 0, 0, fun h => absurd h (by simp), fun j hj => absurd hj (by simp)⟩
theorem Mat.nil (w : World) (A : Option Addr) (c : Nat) (hc : c ≤ maxLen) : Mat w A c [] := ⟨Nat.zero_le _, hc, 0, 0, fun h => absurd h (by simp), fun j hj => absurd hj (by simp)⟩

theorem pick {T : Type} [Inhabited T] {n : Nat} {P : Nat → T → Prop} (h : ∀ i, i < n → ∃ x, P i x) : ∃ f : Nat → T, ∀ i, i < n → P i (f i) := by
  classical
  refine ⟨fun i => if hi : i < n then Classical.choose (h i hi) else default, fun i hi => ?_⟩
  simp only [dif_pos hi]
  exact Classical.choose_spec (h i hi)

/-- the rows of a matrix laid open -/
theorem Mat.parts {w : World} {A : Option Addr} {c : Nat} {D : List (List Int)} (h : Mat w A c D) :
    ∃ (b o : Nat) (R : Nat → Option Addr) (rc rb ro : Nat → Nat), (0 < D.length → A = some ⟨b, o, none⟩) ∧
      (∀ i, i < D.length → w.cell? ⟨b, o + i, none⟩ = some (.slice (R i) (row D i).length (rc i))) ∧
      (∀ i, i < D.length → (row D i).length ≤ rc i ∧ rc i ≤ maxLen) ∧
      (∀ i, i < D.length → 0 < (row D i).length → R i = some ⟨rb i, ro i, none⟩) ∧
      (∀ i, i < D.length → ∀ j, j < (row D i).length → w.cell? ⟨rb i, ro i + j, none⟩ = some (.int .i64 (at2 D i j))) ∧
      (∀ i, i < D.length → Ints w (R i) (rc i) (row D i)) := by
  obtain ⟨_, _, b, o, hA, hc⟩ := h
  have h' : ∀ i, i < D.length → ∃ x : Option Addr × Nat × Nat × Nat, w.cell? ⟨b, o + i, none⟩ = some (.slice x.1 (row D i).length x.2.1) ∧ ((row D i).length ≤ x.2.1 ∧ x.2.1 ≤ maxLen) ∧
      (0 < (row D i).length → x.1 = some ⟨x.2.2.1, x.2.2.2, none⟩) ∧ (∀ j, j < (row D i).length → w.cell? ⟨x.2.2.1, x.2.2.2 + j, none⟩ = some (.int .i64 (at2 D i j))) ∧ Ints w x.1 x.2.1 (row D i) := by
    intro i hi
    obtain ⟨Ar, cr, e, hr⟩ := hc i hi
    obtain ⟨h1, h2, rb, ro, hR, hx⟩ := id hr
    exact ⟨(Ar, cr, rb, ro), e, ⟨h1, h2⟩, hR, hx, hr⟩
  obtain ⟨f, hf⟩ := pick h'
  exact ⟨b, o, fun i => (f i).1, fun i => (f i).2.1, fun i => (f i).2.2.1, fun i => (f i).2.2.2, hA, fun i hi => (hf i hi).1, fun i hi => (hf i hi).2.1, fun i hi => (hf i hi).2.2.1, fun i hi => (hf i hi).2.2.2.1, fun i hi => (hf i hi).2.2.2.2⟩

/-- as many numbers in each row as there are rows -/
def Sq (D : List (List Int)) : Prop := ∀ i, i < D.length → (row D i).length = D.length

/-- a square of numbers laid open -/
theorem Mat.square {w : World} {A : Option Addr} {c : Nat} {D : List (List Int)} (h : Mat w A c D) (hs : Sq D) :
    ∃ (b o : Nat) (rc rb ro : Nat → Nat), (0 < D.length → A = some ⟨b, o, none⟩) ∧
      (∀ i, i < D.length → w.cell? ⟨b, o + i, none⟩ = some (.slice (some ⟨rb i, ro i, none⟩) D.length (rc i))) ∧
      (∀ i, i < D.length → D.length ≤ rc i ∧ rc i ≤ maxLen) ∧
      (∀ i, i < D.length → ∀ j, j < D.length → w.cell? ⟨rb i, ro i + j, none⟩ = some (.int .i64 (at2 D i j))) ∧
      (∀ i, i < D.length → Ints w (some ⟨rb i, ro i, none⟩) (rc i) (row D i)) := by
  obtain ⟨b, o, R, rc, rb, ro, hA, h1, h2, h3, h4, h5⟩ := h.parts
  refine ⟨b, o, rc, rb, ro, hA, fun i hi => ?_, fun i hi => ?_, fun i hi j hj => ?_, fun i hi => ?_⟩
  · rw [← h3 i hi (by rw [hs i hi]; omega), h1 i hi, hs i hi]
  · have := h2 i hi; rw [hs i hi] at this; exact this
  · exact h4 i hi j (by rw [hs i hi]; exact hj)
  · rw [← h3 i hi (by rw [hs i hi]; omega)]; exact h5 i hi

theorem ret_bool {a b : Bool} (h : a = b) : Ending.returned (.bool a) = .returned (.bool b) := by rw [h]
theorem ret_int {k : IntKind} {a b : Int} (h : a = b) : Ending.returned (.int k a) = .returned (.int k b) := by rw [h]
theorem drewN_add (w : World) (a b : Nat) : (w.drewN a).drewN b = w.drewN (a + b) := World.drewN_drewN w a b
theorem drewN_0 (w : World) : w = w.drewN 0 := rfl
theorem quiet_add {P : Program} {f : FuncId} {args : Array Value} {w : World} {a n : Nat} {v : Value}
    (h : Calls P f args (w.drewN (a + n)) fun e w' => e = .returned v ∧ ∃ m, w' = (w.drewN (a + n)).drewN m) :
    Calls P f args (w.drewN (a + n)) fun e w'' => e = .returned v ∧ ∃ m, w'' = w.drewN (a + m) :=
  h.mono fun _ _ ⟨he, m, hm⟩ => ⟨he, n + m, by rw [hm, World.drewN_drewN, Nat.add_assoc]⟩
theorem quiet_add_same {P : Program} {f : FuncId} {args : Array Value} {w : World} {a n : Nat} {v : Value}
    (h : Calls P f args (w.drewN (a + n)) fun e w' => e = .returned v ∧ w' = w.drewN (a + n)) :
    Calls P f args (w.drewN (a + n)) fun e w'' => e = .returned v ∧ ∃ m, w'' = w.drewN (a + m) :=
  h.mono fun _ _ ⟨he, hm⟩ => ⟨he, n, hm⟩
end Go.Proofs.YtnalcgcdohlfiaaGreatDoor
namespace Go.Proofs.YtnalcgcdohlfiaaGreatDoor
open Go.RowKit

def cellOk (D : List (List Int)) (i k : Nat) : Bool := decide (0 ≤ at2 D i k ∧ at2 D i k ≤ 60 ∧ at2 D i k = at2 D k i ∧ (at2 D i k = 0 ↔ i = k))
def sqB (D : List (List Int)) : Bool := allR (fun i => decide ((row D i).length = D.length)) D.length 0
def cellsB (D : List (List Int)) : Bool := allR (fun i => allR (fun k => cellOk D i k) D.length 0) D.length 0
def sizeB (D : List (List Int)) : Bool := decide (1 ≤ D.length ∧ D.length ≤ 6)
/-- rows are distances -/
def farB (D : List (List Int)) : Bool := sizeB D && (sqB D && cellsB D)
theorem sqB_sq {D : List (List Int)} (h : sqB D = true) : Sq D := fun i hi => of_decide_eq_true ((allR_all _ _).1 h i hi)
theorem sq_sqB {D : List (List Int)} (h : Sq D) : sqB D = true := (allR_all _ _).2 fun i hi => decide_eq_true (h i hi)

set_option maxHeartbeats 1000000 in
theorem areFar_any (A : Option Addr) (c : Nat) (D : List (List Int)) (w : World) (h : Mat w A c D) :
    Calls Tryz.prog 55 #[.slice A D.length c] w fun e w' => e = .returned (.bool (farB D)) ∧ ∃ m, w' = w.drewN m := by
  obtain ⟨hlc, hcm, _⟩ := id h
  unfold maxLen at hcm
  obtain ⟨b, o, R, rc, rb, ro, hA, hrow, hlen, hR, hcell, _⟩ := h.parts
  by_cases h1 : D.length < 1
  · have h1' : (D.length : Int) < 1 := by omega
    have HF : Hid (farB D = false) := Lib.hid (by simp [farB, sizeB]; omega)
    go_enter Tryz.func55, Tryz.ntmps55
    go_wp2
    go_ret
    exact ⟨ret_bool HF.out.symm, 0, rfl⟩
  by_cases h6 : 6 < D.length
  · have h1' : ¬ (D.length : Int) < 1 := by omega
    have h6' : (6 : Int) < D.length := by omega
    have HF : Hid (farB D = false) := Lib.hid (by simp [farB, sizeB]; omega)
    go_enter Tryz.func55, Tryz.ntmps55
    go_wp2
    go_ret
    exact ⟨ret_bool HF.out.symm, 0, rfl⟩
  have h1' : ¬ (D.length : Int) < 1 := by omega
  have h6' : ¬ (6 : Int) < D.length := by omega
  have hsz : sizeB D = true := by simp [sizeB]; omega
  obtain rfl := hA (by omega)
  have HS : Hid (farB D = (sqB D && cellsB D)) := Lib.hid (by simp [farB, hsz])
  clear hsz
  go_enter Tryz.func55, Tryz.ntmps55
  go_wp2
  go_loopg [19] D.length (fun g s19 wr => ∃ i m : Nat, i + g = D.length ∧ s19 = .int .i64 i ∧ wr = w.drewN m ∧ Hid (allR (fun i => decide ((row D i).length = D.length)) g i = sqB D))
  case atStart => exact ⟨0, 0, by omega, rfl, rfl, Lib.hid rfl⟩
  case round =>
    obtain ⟨i, m1, hi, rfl, rfl, HI⟩ := hrel
    by_cases hin : i < D.length
    · obtain ⟨g', rfl⟩ : ∃ g', gk = g' + 1 := ⟨gk - 1, by omega⟩
      have hin' : (i : Int) < D.length := by omega
      have r1 := hrow i hin
      have l1 := hlen i hin
      unfold maxLen at l1
      clear hrow hcell hlen hR
      by_cases hq : (row D i).length = D.length
      · have hq' : (((row D i).length : Int) != (D.length : Int)) = false := by simp [hq]
        have HQ := Lib.hid hq
        clear hq
        go_wp2
        go_roundg g'
        case measure => omega
        case rel => exact ⟨i + 1, _, by omega, by go_num, rfl, Lib.hid (by rw [← HI.out, allR, decide_eq_true HQ.out, Bool.true_and])⟩
      · have hq' : (((row D i).length : Int) != (D.length : Int)) = true := by simp; omega
        have HQ := Lib.hid hq
        clear hq
        go_wp2
        go_ret
        exact ⟨ret_bool (by rw [HS.out, ← HI.out, allR, decide_eq_false HQ.out]; rfl), _, rfl⟩
    · have hin' : ¬ (i : Int) < D.length := by omega
      obtain rfl : gk = 0 := by omega
      have hsq : sqB D = true := HI.out.symm
      have HS2 : Hid (farB D = cellsB D) := Lib.hid (by rw [HS.out, hsq, Bool.true_and])
      have hS := sqB_sq hsq
      have hRs : ∀ k, k < D.length → R k = some ⟨rb k, ro k, none⟩ := fun k hk => hR k hk (by rw [hS k hk]; omega)
      have hrow' : ∀ k, k < D.length → w.cell? ⟨b, o + k, none⟩ = some (.slice (some ⟨rb k, ro k, none⟩) D.length (rc k)) := fun k hk => by rw [hrow k hk, hRs k hk, hS k hk]
      have hcell' : ∀ k, k < D.length → ∀ j, j < D.length → w.cell? ⟨rb k, ro k + j, none⟩ = some (.int .i64 (at2 D k j)) := fun k hk j hj => hcell k hk j (by rw [hS k hk]; exact hj)
      clear HS HI hsq hS hRs hrow hcell hR hlen
      go_wp2
      go_loopg [31] D.length (fun g s31 wr => ∃ i m : Nat, i + g = D.length ∧ s31 = .int .i64 i ∧ wr = w.drewN m ∧ Hid (allR (fun i => allR (fun k => cellOk D i k) D.length 0) g i = cellsB D))
      case atStart => exact ⟨0, _, by omega, rfl, rfl, Lib.hid rfl⟩
      case round =>
        obtain ⟨i, m2, hi, rfl, rfl, HI⟩ := hrel
        by_cases hin : i < D.length
        · obtain ⟨g', rfl⟩ : ∃ g', gk = g' + 1 := ⟨gk - 1, by omega⟩
          have hin' : (i : Int) < D.length := by omega
          have r1 := hrow' i hin
          go_wp2
          go_loopg [38] D.length (fun g s38 wr => ∃ k m : Nat, k + g = D.length ∧ s38 = .int .i64 k ∧ wr = w.drewN m ∧ Hid (allR (fun k => cellOk D i k) g k = allR (fun k => cellOk D i k) D.length 0))
          case atStart => exact ⟨0, _, by omega, rfl, rfl, Lib.hid rfl⟩
          case round =>
            obtain ⟨k, m3, hk, rfl, rfl, HK⟩ := hrel
            by_cases hkn : k < D.length
            · obtain ⟨g2, rfl⟩ : ∃ g2, gk = g2 + 1 := ⟨gk - 1, by omega⟩
              have hkn' : (k : Int) < D.length := by omega
              have r2 := hrow' k hkn
              have c1 := hcell' i hin k hkn
              have c2 := hcell' k hkn i hin
              clear hrow' hcell'
              have Hdef := Lib.hid (show cellOk D i k = decide (0 ≤ at2 D i k ∧ at2 D i k ≤ 60 ∧ at2 D i k = at2 D k i ∧ (at2 D i k = 0 ↔ i = k)) from rfl)
              have bad : cellOk D i k = false → farB D = false := fun hb => by
                rw [HS2.out, ← HI.out, allR, ← HK.out, allR, hb]; rfl
              have HB := Lib.hid bad
              clear bad
              by_cases e1 : at2 D i k = at2 D k i
              · have e1' : (at2 D i k != at2 D k i) = false := by simp [e1]
                have E1 := Lib.hid e1
                clear e1
                by_cases e2 : at2 D i k < 0
                · go_wp2
                  go_ret
                  exact ⟨ret_bool (HB.out (by rw [Hdef.out]; simp; omega)).symm, _, rfl⟩
                by_cases e3 : 60 < at2 D i k
                · go_wp2
                  go_ret
                  exact ⟨ret_bool (HB.out (by rw [Hdef.out]; simp; omega)).symm, _, rfl⟩
                by_cases e4 : at2 D i k = 0
                · have e4' : (at2 D i k == 0) = true := by simp [e4]
                  have E4 := Lib.hid e4
                  clear e4
                  by_cases e5 : i = k
                  · have e5' : ((i : Int) == (k : Int)) = true := by simp [e5]
                    have E5 := Lib.hid e5
                    clear e5
                    go_wp2
                    go_roundg g2
                    case measure => omega
                    case rel => exact ⟨k + 1, _, by omega, by go_num, rfl, Lib.hid (by rw [← HK.out, allR, Hdef.out, decide_eq_true ⟨by omega, by omega, E1.out, fun _ => E5.out, fun _ => E4.out⟩, Bool.true_and])⟩
                  · have e5' : ((i : Int) == (k : Int)) = false := by simp; omega
                    go_wp2
                    go_ret
                    exact ⟨ret_bool (HB.out (by rw [Hdef.out]; have := E4.out; simp; omega)).symm, _, rfl⟩
                · have e4' : (at2 D i k == 0) = false := by simp [e4]
                  have E4 := Lib.hid e4
                  clear e4
                  by_cases e5 : i = k
                  · have e5' : ((i : Int) == (k : Int)) = true := by simp [e5]
                    have E5 := Lib.hid e5
                    clear e5
                    go_wp2
                    go_ret
                    exact ⟨ret_bool (HB.out (by rw [Hdef.out]; have := E4.out; have := E5.out; simp; omega)).symm, _, rfl⟩
                  · have e5' : ((i : Int) == (k : Int)) = false := by simp; omega
                    go_wp2
                    go_roundg g2
                    case measure => omega
                    case rel => exact ⟨k + 1, _, by omega, by go_num, rfl, Lib.hid (by rw [← HK.out, allR, Hdef.out, decide_eq_true ⟨by omega, by omega, E1.out, fun h => absurd h E4.out, fun h => absurd h e5⟩, Bool.true_and])⟩
              · have e1' : (at2 D i k != at2 D k i) = true := by simp [e1]
                have E1 := Lib.hid e1
                clear e1
                go_wp2
                go_ret
                exact ⟨ret_bool (HB.out (by rw [Hdef.out]; have := E1.out; simp; omega)).symm, _, rfl⟩
            · have hkn' : ¬ (k : Int) < D.length := by omega
              obtain rfl : gk = 0 := by omega
              have HT : Hid (allR (fun k => cellOk D i k) D.length 0 = true) := Lib.hid (by rw [← HK.out]; rfl)
              clear hrow' hcell' HK
              go_wp2
              go_roundg g'
              case measure => omega
              case rel => exact ⟨i + 1, _, by omega, by go_num, rfl, Lib.hid (by rw [← HI.out, allR, HT.out, Bool.true_and])⟩
        · have hin' : ¬ (i : Int) < D.length := by omega
          obtain rfl : gk = 0 := by omega
          clear hrow' hcell'
          go_wp2
          go_ret
          exact ⟨ret_bool (by rw [HS2.out, ← HI.out]; rfl), _, rfl⟩
end Go.Proofs.YtnalcgcdohlfiaaGreatDoor
namespace Go.Proofs.YtnalcgcdohlfiaaGreatDoor
open Go.RowKit

def tri (D : List (List Int)) (i k j : Nat) : Bool := decide (at2 D i k ≤ at2 D i j + at2 D j k)
def triB (D : List (List Int)) : Bool := allR (fun i => allR (fun k => allR (fun j => tri D i k j) D.length 0) D.length 0) D.length 0
/-- rows are a space -/
def spB (D : List (List Int)) : Bool := farB D && triB D
theorem farB_parts {D : List (List Int)} (h : farB D = true) : (1 ≤ D.length ∧ D.length ≤ 6) ∧ Sq D ∧ ∀ i, i < D.length → ∀ k, k < D.length → 0 ≤ at2 D i k ∧ at2 D i k ≤ 60 ∧ at2 D i k = at2 D k i ∧ (at2 D i k = 0 ↔ i = k) := by
  simp only [farB, Bool.and_eq_true] at h
  obtain ⟨h1, h2, h3⟩ := h
  refine ⟨of_decide_eq_true h1, sqB_sq h2, fun i hi k hk => ?_⟩
  exact of_decide_eq_true ((allR_all _ _).1 ((allR_all _ _).1 h3 i hi) k hk)

set_option maxHeartbeats 1000000 in
theorem isSpace_any (A : Option Addr) (c : Nat) (D : List (List Int)) (w : World) (h : Mat w A c D) :
    Calls Tryz.prog 31 #[.slice A D.length c] w fun e w' => e = .returned (.bool (spB D)) ∧ ∃ m, w' = w.drewN m := by
  obtain ⟨hlc, hcm, _⟩ := id h
  unfold maxLen at hcm
  cases hf : farB D with
  | false =>
    have HF : Hid (spB D = false) := Lib.hid (by simp [spB, hf])
    have HC := Lib.hid (areFar_any A c D w h)
    rw [hf] at HC
    clear hf
    go_enter Tryz.func31, Tryz.ntmps31
    go_wp2_with (go_at_call 55; refine HC.out.mono ?_; rintro e w' ⟨rfl, m0, rfl⟩)
    go_ret
    exact ⟨ret_bool HF.out.symm, _, rfl⟩
  | true =>
    have HF : Hid (spB D = triB D) := Lib.hid (by simp [spB, hf])
    have HC := Lib.hid (areFar_any A c D w h)
    rw [hf] at HC
    obtain ⟨⟨hn1, hn6⟩, hsq, hcells⟩ := farB_parts hf
    clear hf
    obtain ⟨b, o, rc, rb, ro, hA, hrow, _, hcell, _⟩ := h.square hsq
    obtain rfl := hA (by omega)
    go_enter Tryz.func31, Tryz.ntmps31
    go_wp2_with (go_at_call 55; refine HC.out.mono ?_; rintro e w' ⟨rfl, m0, rfl⟩)
    go_loopg [11] D.length (fun g s11 wr => ∃ i m : Nat, i + g = D.length ∧ s11 = .int .i64 i ∧ wr = w.drewN m ∧ Hid (allR (fun i => allR (fun k => allR (fun j => tri D i k j) D.length 0) D.length 0) g i = triB D))
    case atStart => exact ⟨0, _, by omega, rfl, rfl, Lib.hid rfl⟩
    case round =>
      obtain ⟨i, m1, hi, rfl, rfl, HI⟩ := hrel
      by_cases hin : i < D.length
      · obtain ⟨g1, rfl⟩ : ∃ g', gk = g' + 1 := ⟨gk - 1, by omega⟩
        have hin' : (i : Int) < D.length := by omega
        go_wp2
        go_loopg [16] D.length (fun g s16 wr => ∃ k m : Nat, k + g = D.length ∧ s16 = .int .i64 k ∧ wr = w.drewN m ∧ Hid (allR (fun k => allR (fun j => tri D i k j) D.length 0) g k = allR (fun k => allR (fun j => tri D i k j) D.length 0) D.length 0))
        case atStart => exact ⟨0, _, by omega, rfl, rfl, Lib.hid rfl⟩
        case round =>
          obtain ⟨k, m2, hk, rfl, rfl, HK⟩ := hrel
          by_cases hkn : k < D.length
          · obtain ⟨g2, rfl⟩ : ∃ g', gk = g' + 1 := ⟨gk - 1, by omega⟩
            have hkn' : (k : Int) < D.length := by omega
            go_wp2
            go_loopg [21] D.length (fun g s21 wr => ∃ j m : Nat, j + g = D.length ∧ s21 = .int .i64 j ∧ wr = w.drewN m ∧ Hid (allR (fun j => tri D i k j) g j = allR (fun j => tri D i k j) D.length 0))
            case atStart => exact ⟨0, _, by omega, rfl, rfl, Lib.hid rfl⟩
            case round =>
              obtain ⟨j, m3, hj, rfl, rfl, HJ⟩ := hrel
              by_cases hjn : j < D.length
              · obtain ⟨g3, rfl⟩ : ∃ g', gk = g' + 1 := ⟨gk - 1, by omega⟩
                have hjn' : (j : Int) < D.length := by omega
                have r1 := hrow i hin
                have r2 := hrow j hjn
                have c1 := hcell i hin k hkn
                have c2 := hcell i hin j hjn
                have c3 := hcell j hjn k hkn
                obtain ⟨b1, b1', _, _⟩ := hcells i hin k hkn
                obtain ⟨b2, b2', _, _⟩ := hcells i hin j hjn
                obtain ⟨b3, b3', _, _⟩ := hcells j hjn k hkn
                clear hrow hcell hcells
                by_cases ht : at2 D i k ≤ at2 D i j + at2 D j k
                · have HT : Hid (tri D i k j = true) := Lib.hid (decide_eq_true ht)
                  go_wp2
                  go_quiet (fail)
                  go_wp2
                  go_roundg g3
                  case measure => omega
                  case rel => exact ⟨j + 1, _, by omega, by go_num, by first | rfl | exact drewN_add _ _ _, Lib.hid (by rw [← HJ.out, allR, HT.out, Bool.true_and])⟩
                · have HT : Hid (tri D i k j = false) := Lib.hid (decide_eq_false ht)
                  go_wp2
                  go_quiet (fail)
                  go_wp2
                  go_ret
                  exact ⟨ret_bool (by rw [HF.out, ← HI.out, allR, ← HK.out, allR, ← HJ.out, allR, HT.out]; rfl), _, drewN_add _ _ _⟩
              · have hjn' : ¬ (j : Int) < D.length := by omega
                obtain rfl : gk = 0 := by omega
                have HT : Hid (allR (fun j => tri D i k j) D.length 0 = true) := Lib.hid (by rw [← HJ.out]; rfl)
                clear hrow hcell hcells HJ
                go_wp2
                go_roundg g2
                case measure => omega
                case rel => exact ⟨k + 1, _, by omega, by go_num, rfl, Lib.hid (by rw [← HK.out, allR, HT.out, Bool.true_and])⟩
          · have hkn' : ¬ (k : Int) < D.length := by omega
            obtain rfl : gk = 0 := by omega
            have HT : Hid (allR (fun k => allR (fun j => tri D i k j) D.length 0) D.length 0 = true) := Lib.hid (by rw [← HK.out]; rfl)
            clear hrow hcell hcells HK
            go_wp2
            go_roundg g1
            case measure => omega
            case rel => exact ⟨i + 1, _, by omega, by go_num, rfl, Lib.hid (by rw [← HI.out, allR, HT.out, Bool.true_and])⟩
      · have hin' : ¬ (i : Int) < D.length := by omega
        obtain rfl : gk = 0 := by omega
        clear hrow hcell hcells
        go_wp2
        go_ret
        exact ⟨ret_bool (by rw [HF.out, ← HI.out]; rfl), _, rfl⟩
end Go.Proofs.YtnalcgcdohlfiaaGreatDoor
namespace Go.Proofs.YtnalcgcdohlfiaaGreatDoor
open Go.RowKit

/-- a number lies between two others -/
def inB (n lo hi : Int) : Bool := decide (lo ≤ n ∧ n ≤ hi)

set_option maxHeartbeats 400000 in
theorem l1In_any (n lo hi : Int) (w : World) : Calls Tryz.prog 53 #[.int .i64 n, .int .i64 lo, .int .i64 hi] w fun e w' => e = .returned (.bool (inB n lo hi)) ∧ w' = w := by
  have Hd := Lib.hid (show inB n lo hi = decide (lo ≤ n ∧ n ≤ hi) from rfl)
  by_cases h1 : lo ≤ n
  · by_cases h2 : n ≤ hi
    · go_enter Tryz.func53, Tryz.ntmps53
      go_wp2
      go_ret
      exact ⟨ret_bool (by rw [Hd.out, decide_eq_true ⟨h1, h2⟩]), rfl⟩
    · go_enter Tryz.func53, Tryz.ntmps53
      go_wp2
      go_ret
      exact ⟨ret_bool (by rw [Hd.out, decide_eq_false (by omega)]), rfl⟩
  · go_enter Tryz.func53, Tryz.ntmps53
    go_wp2
    go_ret
    exact ⟨ret_bool (by rw [Hd.out, decide_eq_false (by omega)]), rfl⟩

set_option maxHeartbeats 1000000 in
theorem FarOk_any (A : Option Addr) (c : Nat) (D : List (List Int)) (w : World) (h : Mat w A c D) :
    Calls Tryz.prog 50 #[.slice A D.length c] w fun e w' => e = .returned (.bool (farB D)) ∧ ∃ m, w' = w.drewN m := by
  obtain ⟨hlc, hcm, _⟩ := id h
  unfold maxLen at hcm
  obtain ⟨b, o, R, rc, rb, ro, hA, hrow, hlen, hR, hcell, _⟩ := h.parts
  have Hd := Lib.hid (show farB D = (sizeB D && (sqB D && cellsB D)) from rfl)
  go_enter Tryz.func50, Tryz.ntmps50
  go_wp2
  go_loopg [3] (D.length) (fun g s3 wr => ∃ (i m : Nat), i + g = D.length ∧ s3 = .int .i64 i ∧ wr = w.drewN m ∧ Hid (allR (fun i => decide ((row D i).length = D.length)) g i = sqB D))
  case atStart => exact ⟨0, _, by omega, rfl, by first | rfl | exact drewN_0 _ | exact drewN_add _ _ _, Lib.hid (rfl)⟩
  case round =>
    obtain ⟨i, mi, hi, rfl, rfl, Hi⟩ := hrel
    by_cases hini : i < D.length
    · obtain ⟨gi, rfl⟩ : ∃ g', gk = g' + 1 := ⟨gk - 1, by omega⟩
      have hini' : (i : Int) < (D.length : Nat) := by omega
      obtain rfl := hA (by omega)
      have r1 := hrow i hini
      have l1 := hlen i hini
      unfold maxLen at l1
      clear hrow hcell hlen hR
      by_cases hq : (row D i).length = D.length
      · have hq' : (((row D i).length : Int) != (D.length : Int)) = false := by simp [hq]
        have HQ := Lib.hid hq
        clear hq
        go_wp2
        go_roundg gi
        case measure => omega
        case rel => exact ⟨i + 1, _, by omega, by go_num, by first | rfl | exact drewN_0 _ | exact drewN_add _ _ _, Lib.hid (by rw [← Hi.out, allR, decide_eq_true HQ.out, Bool.true_and])⟩
      · have hq' : (((row D i).length : Int) != (D.length : Int)) = true := by simp; omega
        have HQ := Lib.hid hq
        clear hq
        go_wp2
        go_ret
        exact ⟨ret_bool (by rw [Hd.out, ← Hi.out, allR, decide_eq_false HQ.out]; simp), _, rfl⟩
    · have hini' : ¬ (i : Int) < (D.length : Nat) := by omega
      obtain rfl : gk = 0 := by omega
      have hsq : sqB D = true := Hi.out.symm
      have HS2 : Hid (farB D = (sizeB D && cellsB D)) := Lib.hid (by rw [Hd.out, hsq, Bool.true_and])
      have hS := sqB_sq hsq
      have hRs : ∀ k, k < D.length → R k = some ⟨rb k, ro k, none⟩ := fun k hk => hR k hk (by rw [hS k hk]; omega)
      have hrow' : ∀ k, k < D.length → w.cell? ⟨b, o + k, none⟩ = some (.slice (some ⟨rb k, ro k, none⟩) D.length (rc k)) := fun k hk => by rw [hrow k hk, hRs k hk, hS k hk]
      have hcell' : ∀ k, k < D.length → ∀ j, j < D.length → w.cell? ⟨rb k, ro k + j, none⟩ = some (.int .i64 (at2 D k j)) := fun k hk j hj => hcell k hk j (by rw [hS k hk]; exact hj)
      have hsz : sizeB D = inB D.length 1 6 := by rw [Bool.eq_iff_iff]; simp [sizeB, inB]; omega
      clear Hd Hi hsq hS hRs hrow hcell hR hlen
      cases hz : inB D.length 1 6 with
      | false =>
        have HF : Hid (farB D = false) := Lib.hid (by rw [HS2.out, hsz, hz, Bool.false_and])
        clear hsz hrow' hcell'
        go_wp2_with (go_at_call 53; refine (l1In_any _ _ _ _).mono ?_; rintro e w' ⟨rfl, rfl⟩)
        go_ret
        exact ⟨ret_bool HF.out.symm, _, rfl⟩
      | true =>
      have hz2 : 1 ≤ D.length := by have := of_decide_eq_true hz; omega
      have HF : Hid (farB D = cellsB D) := Lib.hid (by rw [HS2.out, hsz, hz, Bool.true_and])
      obtain rfl := hA (by omega)
      clear hsz HS2
      go_wp2_with (go_at_call 53; refine (l1In_any _ _ _ _).mono ?_; rintro e w' ⟨rfl, rfl⟩)
      clear hz
      go_loopg [4] (D.length) (fun g s4 wr => ∃ (i m : Nat), i + g = D.length ∧ s4 = .int .i64 i ∧ wr = w.drewN m ∧ Hid (allR (fun i => allR (fun k => cellOk D i k) D.length 0) g i = cellsB D))
      case atStart => exact ⟨0, _, by omega, rfl, by first | rfl | exact drewN_0 _ | exact drewN_add _ _ _, Lib.hid (rfl)⟩
      case round =>
        obtain ⟨i, mi, hi, rfl, rfl, Hi⟩ := hrel
        by_cases hini : i < D.length
        · obtain ⟨gi, rfl⟩ : ∃ g', gk = g' + 1 := ⟨gk - 1, by omega⟩
          have hini' : (i : Int) < (D.length : Nat) := by omega
          go_wp2
          go_loopg [5] (D.length) (fun g s5 wr => ∃ (k m : Nat), k + g = D.length ∧ s5 = .int .i64 k ∧ wr = w.drewN m ∧ Hid (allR (fun k => cellOk D i k) g k = allR (fun k => cellOk D i k) D.length 0))
          case atStart => exact ⟨0, _, by omega, rfl, by first | rfl | exact drewN_0 _ | exact drewN_add _ _ _, Lib.hid (rfl)⟩
          case round =>
            obtain ⟨k, mk, hk, rfl, rfl, Hk⟩ := hrel
            by_cases hink : k < D.length
            · obtain ⟨gk, rfl⟩ : ∃ g', gk = g' + 1 := ⟨gk - 1, by omega⟩
              have hink' : (k : Int) < (D.length : Nat) := by omega
              have r1 := hrow' i hini
              have r2 := hrow' k hink
              have c1 := hcell' i hini k hink
              have c2 := hcell' k hink i hini
              clear hrow' hcell'
              have Hdef := Lib.hid (show cellOk D i k = decide (0 ≤ at2 D i k ∧ at2 D i k ≤ 60 ∧ at2 D i k = at2 D k i ∧ (at2 D i k = 0 ↔ i = k)) from rfl)
              have HB := Lib.hid (show cellOk D i k = false → farB D = false from fun hb => by rw [HF.out, ← Hi.out, allR, ← Hk.out, allR, hb]; rfl)
              have HN := Lib.hid (show cellOk D i k = true → allR (fun k => cellOk D i k) gk (k + 1) = allR (fun k => cellOk D i k) D.length 0 from fun hb => by rw [← Hk.out, allR, hb]; rfl)
              clear Hi Hk HF
              cases e0 : inB (at2 D i k) 0 60 with
              | false =>
                have H0 := Lib.hid (of_decide_eq_false e0)
                go_wp2
                go_quiet ((go_at_call 53; (first | exact Calls.quiet_of_same (l1In_any _ _ _ _) | exact quiet_add_same (l1In_any _ _ _ _) | exact Calls.quiet_of (l1In_any _ _ _ _) | exact quiet_add (l1In_any _ _ _ _))))
                go_wp2
                go_ret
                exact ⟨ret_bool (HB.out (by rw [Hdef.out]; exact decide_eq_false (fun h => H0.out ⟨h.1, h.2.1⟩))).symm, _, by first | rfl | exact drewN_add _ _ _⟩
              | true =>
              have H0 := Lib.hid (of_decide_eq_true e0)
              by_cases e1 : at2 D i k = at2 D k i
              · have e1' : (at2 D i k != at2 D k i) = false := by simp [e1]
                have E1 := Lib.hid e1
                clear e1
                cases e4 : (at2 D i k == 0) <;> cases e5 : ((i : Int) == (k : Int))
                · have E4 := Lib.hid (show ¬ at2 D i k = 0 by simpa using e4)
                  have E5 := Lib.hid (show ¬ i = k from fun e => by simp [e] at e5)
                  go_wp2
                  go_quiet ((go_at_call 53; (first | exact Calls.quiet_of_same (l1In_any _ _ _ _) | exact quiet_add_same (l1In_any _ _ _ _) | exact Calls.quiet_of (l1In_any _ _ _ _) | exact quiet_add (l1In_any _ _ _ _))))
                  go_wp2
                  go_roundg gk
                  case measure => omega
                  case rel => exact ⟨k + 1, _, by omega, by go_num, by first | rfl | exact drewN_0 _ | exact drewN_add _ _ _, Lib.hid (by exact HN.out (by rw [Hdef.out]; exact decide_eq_true ⟨H0.out.1, H0.out.2, E1.out, fun h => absurd h E4.out, fun h => absurd h E5.out⟩))⟩
                · have E4 := Lib.hid (show ¬ at2 D i k = 0 by simpa using e4)
                  have E5 := Lib.hid (show i = k by have := beq_iff_eq.1 e5; omega)
                  go_wp2
                  go_quiet ((go_at_call 53; (first | exact Calls.quiet_of_same (l1In_any _ _ _ _) | exact quiet_add_same (l1In_any _ _ _ _) | exact Calls.quiet_of (l1In_any _ _ _ _) | exact quiet_add (l1In_any _ _ _ _))))
                  go_wp2
                  go_ret
                  exact ⟨ret_bool (HB.out (by rw [Hdef.out]; exact decide_eq_false (fun h => E4.out (h.2.2.2.2 E5.out)))).symm, _, by first | rfl | exact drewN_add _ _ _⟩
                · have E4 := Lib.hid (show at2 D i k = 0 from beq_iff_eq.1 e4)
                  have E5 := Lib.hid (show ¬ i = k from fun e => by simp [e] at e5)
                  go_wp2
                  go_quiet ((go_at_call 53; (first | exact Calls.quiet_of_same (l1In_any _ _ _ _) | exact quiet_add_same (l1In_any _ _ _ _) | exact Calls.quiet_of (l1In_any _ _ _ _) | exact quiet_add (l1In_any _ _ _ _))))
                  go_wp2
                  go_ret
                  exact ⟨ret_bool (HB.out (by rw [Hdef.out]; exact decide_eq_false (fun h => E5.out (h.2.2.2.1 E4.out)))).symm, _, by first | rfl | exact drewN_add _ _ _⟩
                · have E4 := Lib.hid (show at2 D i k = 0 from beq_iff_eq.1 e4)
                  have E5 := Lib.hid (show i = k by have := beq_iff_eq.1 e5; omega)
                  go_wp2
                  go_quiet ((go_at_call 53; (first | exact Calls.quiet_of_same (l1In_any _ _ _ _) | exact quiet_add_same (l1In_any _ _ _ _) | exact Calls.quiet_of (l1In_any _ _ _ _) | exact quiet_add (l1In_any _ _ _ _))))
                  go_wp2
                  go_roundg gk
                  case measure => omega
                  case rel => exact ⟨k + 1, _, by omega, by go_num, by first | rfl | exact drewN_0 _ | exact drewN_add _ _ _, Lib.hid (by exact HN.out (by rw [Hdef.out]; exact decide_eq_true ⟨H0.out.1, H0.out.2, E1.out, fun _ => E5.out, fun _ => E4.out⟩))⟩
              · have e1' : (at2 D i k != at2 D k i) = true := by simp [e1]
                have E1 := Lib.hid e1
                clear e1
                go_wp2
                go_quiet ((go_at_call 53; (first | exact Calls.quiet_of_same (l1In_any _ _ _ _) | exact quiet_add_same (l1In_any _ _ _ _) | exact Calls.quiet_of (l1In_any _ _ _ _) | exact quiet_add (l1In_any _ _ _ _))))
                go_wp2
                go_ret
                exact ⟨ret_bool (HB.out (by rw [Hdef.out]; exact decide_eq_false (fun h => E1.out h.2.2.1))).symm, _, by first | rfl | exact drewN_add _ _ _⟩
            · have hink' : ¬ (k : Int) < (D.length : Nat) := by omega
              obtain rfl : gk = 0 := by omega
              have HT : Hid (allR (fun k => cellOk D i k) D.length 0 = true) := Lib.hid (by rw [← Hk.out]; rfl)
              clear hrow' hcell' Hk
              go_wp2
              go_roundg gi
              case measure => omega
              case rel => exact ⟨i + 1, _, by omega, by go_num, by first | rfl | exact drewN_0 _ | exact drewN_add _ _ _, Lib.hid (by rw [← Hi.out, allR, HT.out, Bool.true_and])⟩
        · have hini' : ¬ (i : Int) < (D.length : Nat) := by omega
          obtain rfl : gk = 0 := by omega
          clear hrow' hcell'
          go_wp2
          go_ret
          exact ⟨ret_bool (by rw [HF.out, ← Hi.out]; rfl), _, rfl⟩

set_option maxHeartbeats 1000000 in
theorem SpaceOk_any (A : Option Addr) (c : Nat) (D : List (List Int)) (w : World) (h : Mat w A c D) :
    Calls Tryz.prog 24 #[.slice A D.length c] w fun e w' => e = .returned (.bool (spB D)) ∧ ∃ m, w' = w.drewN m := by
  obtain ⟨hlc, hcm, _⟩ := id h
  unfold maxLen at hcm
  cases hf : farB D with
  | false =>
    have HF : Hid (spB D = false) := Lib.hid (by simp [spB, hf])
    have HC := Lib.hid (FarOk_any A c D w h)
    rw [hf] at HC
    clear hf
    go_enter Tryz.func24, Tryz.ntmps24
    go_wp2_with (go_at_call 50; refine HC.out.mono ?_; rintro e w' ⟨rfl, m0, rfl⟩)
    go_ret
    exact ⟨ret_bool HF.out.symm, _, rfl⟩
  | true =>
    have HF : Hid (spB D = triB D) := Lib.hid (by simp [spB, hf])
    have HC := Lib.hid (FarOk_any A c D w h)
    rw [hf] at HC
    obtain ⟨⟨hn1, hn6⟩, hsq, hcells⟩ := farB_parts hf
    clear hf
    obtain ⟨b, o, rc, rb, ro, hA, hrow, _, hcell, _⟩ := h.square hsq
    obtain rfl := hA (by omega)
    go_enter Tryz.func24, Tryz.ntmps24
    go_wp2_with (go_at_call 50; refine HC.out.mono ?_; rintro e w' ⟨rfl, m0, rfl⟩)
    go_loopg [3] (D.length) (fun g s3 wr => ∃ (i m : Nat), i + g = D.length ∧ s3 = .int .i64 i ∧ wr = w.drewN m ∧ Hid (allR (fun i => allR (fun k => allR (fun j => tri D i k j) D.length 0) D.length 0) g i = triB D))
    case atStart => exact ⟨0, _, by omega, rfl, by first | rfl | exact drewN_0 _ | exact drewN_add _ _ _, Lib.hid (rfl)⟩
    case round =>
      obtain ⟨i, mi, hi, rfl, rfl, Hi⟩ := hrel
      by_cases hini : i < D.length
      · obtain ⟨gi, rfl⟩ : ∃ g', gk = g' + 1 := ⟨gk - 1, by omega⟩
        have hini' : (i : Int) < (D.length : Nat) := by omega
        go_wp2
        go_loopg [4] (D.length) (fun g s4 wr => ∃ (k m : Nat), k + g = D.length ∧ s4 = .int .i64 k ∧ wr = w.drewN m ∧ Hid (allR (fun k => allR (fun j => tri D i k j) D.length 0) g k = allR (fun k => allR (fun j => tri D i k j) D.length 0) D.length 0))
        case atStart => exact ⟨0, _, by omega, rfl, by first | rfl | exact drewN_0 _ | exact drewN_add _ _ _, Lib.hid (rfl)⟩
        case round =>
          obtain ⟨k, mk, hk, rfl, rfl, Hk⟩ := hrel
          by_cases hink : k < D.length
          · obtain ⟨gk, rfl⟩ : ∃ g', gk = g' + 1 := ⟨gk - 1, by omega⟩
            have hink' : (k : Int) < (D.length : Nat) := by omega
            go_wp2
            go_loopg [5] (D.length) (fun g s5 wr => ∃ (j m : Nat), j + g = D.length ∧ s5 = .int .i64 j ∧ wr = w.drewN m ∧ Hid (allR (fun j => tri D i k j) g j = allR (fun j => tri D i k j) D.length 0))
            case atStart => exact ⟨0, _, by omega, rfl, by first | rfl | exact drewN_0 _ | exact drewN_add _ _ _, Lib.hid (rfl)⟩
            case round =>
              obtain ⟨j, mj, hj, rfl, rfl, Hj⟩ := hrel
              by_cases hinj : j < D.length
              · obtain ⟨gj, rfl⟩ : ∃ g', gk = g' + 1 := ⟨gk - 1, by omega⟩
                have hinj' : (j : Int) < (D.length : Nat) := by omega
                have r1 := hrow i hini
                have r2 := hrow j hinj
                have c1 := hcell i hini k hink
                have c2 := hcell i hini j hinj
                have c3 := hcell j hinj k hink
                obtain ⟨b1, b1', _, _⟩ := hcells i hini k hink
                obtain ⟨b2, b2', _, _⟩ := hcells i hini j hinj
                obtain ⟨b3, b3', _, _⟩ := hcells j hinj k hink
                clear hrow hcell hcells
                by_cases ht : at2 D i k ≤ at2 D i j + at2 D j k
                · have HT : Hid (tri D i k j = true) := Lib.hid (decide_eq_true ht)
                  go_wp2
                  go_quiet (fail)
                  go_wp2
                  go_roundg gj
                  case measure => omega
                  case rel => exact ⟨j + 1, _, by omega, by go_num, by first | rfl | exact drewN_0 _ | exact drewN_add _ _ _, Lib.hid (by rw [← Hj.out, allR, HT.out, Bool.true_and])⟩
                · have HT : Hid (tri D i k j = false) := Lib.hid (decide_eq_false ht)
                  go_wp2
                  go_quiet (fail)
                  go_wp2
                  go_ret
                  exact ⟨ret_bool (by rw [HF.out, ← Hi.out, allR, ← Hk.out, allR, ← Hj.out, allR, HT.out]; rfl), _, by first | rfl | exact drewN_add _ _ _⟩
              · have hinj' : ¬ (j : Int) < (D.length : Nat) := by omega
                obtain rfl : gk = 0 := by omega
                have HT : Hid (allR (fun j => tri D i k j) D.length 0 = true) := Lib.hid (by rw [← Hj.out]; rfl)
                clear hrow hcell hcells Hj
                go_wp2
                go_roundg gk
                case measure => omega
                case rel => exact ⟨k + 1, _, by omega, by go_num, by first | rfl | exact drewN_0 _ | exact drewN_add _ _ _, Lib.hid (by rw [← Hk.out, allR, HT.out, Bool.true_and])⟩
          · have hink' : ¬ (k : Int) < (D.length : Nat) := by omega
            obtain rfl : gk = 0 := by omega
            have HT : Hid (allR (fun k => allR (fun j => tri D i k j) D.length 0) D.length 0 = true) := Lib.hid (by rw [← Hk.out]; rfl)
            clear hrow hcell hcells Hk
            go_wp2
            go_roundg gi
            case measure => omega
            case rel => exact ⟨i + 1, _, by omega, by go_num, by first | rfl | exact drewN_0 _ | exact drewN_add _ _ _, Lib.hid (by rw [← Hi.out, allR, HT.out, Bool.true_and])⟩
      · have hini' : ¬ (i : Int) < (D.length : Nat) := by omega
        obtain rfl : gk = 0 := by omega
        clear hrow hcell hcells
        go_wp2
        go_ret
        exact ⟨ret_bool (by rw [HF.out, ← Hi.out]; rfl), _, rfl⟩
end Go.Proofs.YtnalcgcdohlfiaaGreatDoor
namespace Go.Proofs.YtnalcgcdohlfiaaGreatDoor
open Go.RowKit

def eqI (xs ys : List Int) : Bool := decide (xs = ys)
def eqM (D E : List (List Int)) : Bool := decide (D = E)
theorem eqI_refl (xs : List Int) : eqI xs xs = true := decide_eq_true rfl
theorem eqM_refl (D : List (List Int)) : eqM D D = true := decide_eq_true rfl
theorem eqI_len {xs ys : List Int} (h : xs.length ≠ ys.length) : eqI xs ys = false := decide_eq_false fun e => h (by rw [e])
theorem eqM_len {D E : List (List Int)} (h : D.length ≠ E.length) : eqM D E = false := decide_eq_false fun e => h (by rw [e])
theorem eqI_all {xs ys : List Int} (h : xs.length = ys.length) : allR (fun j => decide (ix xs j = ix ys j)) xs.length 0 = eqI xs ys := by
  rw [Bool.eq_iff_iff, allR_all]
  unfold eqI
  rw [decide_eq_true_iff]
  exact ⟨fun k => ext_ix h fun i hi => of_decide_eq_true (k i hi), fun e i _ => decide_eq_true (by rw [e])⟩
theorem eqM_all {D E : List (List Int)} (h : D.length = E.length) : allR (fun j => eqI (row D j) (row E j)) D.length 0 = eqM D E := by
  rw [Bool.eq_iff_iff, allR_all]
  unfold eqM
  rw [decide_eq_true_iff]
  exact ⟨fun k => ext_row h fun i hi => of_decide_eq_true (k i hi), fun e i _ => decide_eq_true (by rw [e])⟩

set_option maxHeartbeats 1000000 in
theorem sameInts_any (A B : Option Addr) (c d : Nat) (xs ys : List Int) (w : World) (hx : Ints w A c xs) (hy : Ints w B d ys) :
    Calls Tryz.prog 49 #[.slice A xs.length c, .slice B ys.length d] w fun e w' => e = .returned (.bool (eqI xs ys)) ∧ ∃ m, w' = w.drewN m := by
  obtain ⟨h1, h2, b, o, hA, hc⟩ := hx
  obtain ⟨k1, k2, b', o', hB, hd⟩ := hy
  unfold maxLen at h2 k2
  by_cases hl : xs.length = ys.length
  · have hl' : ((xs.length : Int) != (ys.length : Int)) = false := by simp [hl]
    have HA := Lib.hid (eqI_all hl)
    have HL := Lib.hid hl
    have hlt : ∀ i : Nat, i < xs.length → i < ys.length := fun i hi => by omega
    clear hl
    go_enter Tryz.func49, Tryz.ntmps49
    go_wp2
    clear hl'
    go_loopg [5] (xs.length) (fun g s5 wr => ∃ (i m : Nat), i + g = xs.length ∧ s5 = .int .i64 i ∧ wr = w.drewN m ∧ Hid (allR (fun j => decide (ix xs j = ix ys j)) g i = eqI xs ys))
    case atStart => exact ⟨0, _, by omega, rfl, by first | rfl | exact drewN_0 _ | exact drewN_add _ _ _, Lib.hid (HA.out)⟩
    case round =>
      obtain ⟨i, mi, hi, rfl, rfl, Hi⟩ := hrel
      by_cases hini : i < xs.length
      · obtain ⟨gi, rfl⟩ : ∃ g', gk = g' + 1 := ⟨gk - 1, by omega⟩
        have hini' : (i : Int) < (xs.length : Nat) := by omega
        have hl2 := hlt i hini
        obtain rfl := hA (by omega)
        obtain rfl := hB (by omega)
        have c1 := hc i hini
        have c2 := hd i hl2
        clear hc hd hlt
        by_cases e : ix xs i = ix ys i
        · have e' : (ix xs i != ix ys i) = false := by simp [e]
          have E1 := Lib.hid e
          clear e
          go_wp2
          go_quiet (fail)
          go_wp2
          go_roundg gi
          case measure => omega
          case rel => exact ⟨i + 1, _, by omega, by go_num, by first | rfl | exact drewN_0 _ | exact drewN_add _ _ _, Lib.hid (by rw [← Hi.out, allR, decide_eq_true E1.out, Bool.true_and])⟩
        · have e' : (ix xs i != ix ys i) = true := by simp [e]
          have E1 := Lib.hid e
          clear e
          go_wp2
          go_quiet (fail)
          go_wp2
          go_ret
          exact ⟨ret_bool (by rw [← Hi.out, allR, decide_eq_false E1.out]; rfl), _, by first | rfl | exact drewN_add _ _ _⟩
      · have hini' : ¬ (i : Int) < (xs.length : Nat) := by omega
        obtain rfl : gk = 0 := by omega
        clear hc hd hlt
        go_wp2
        go_ret
        exact ⟨ret_bool (by rw [← Hi.out]; rfl), _, rfl⟩
    done
  · have hl' : ((xs.length : Int) != (ys.length : Int)) = true := by simp; omega
    have HL := Lib.hid (eqI_len hl)
    clear hl
    go_enter Tryz.func49, Tryz.ntmps49
    go_wp2
    go_ret
    exact ⟨ret_bool HL.out.symm, 0, rfl⟩

set_option maxHeartbeats 1000000 in
theorem sameRows_any (A B : Option Addr) (c d : Nat) (D E : List (List Int)) (w : World) (hx : Mat w A c D) (hy : Mat w B d E) :
    Calls Tryz.prog 23 #[.slice A D.length c, .slice B E.length d] w fun e w' => e = .returned (.bool (eqM D E)) ∧ ∃ m, w' = w.drewN m := by
  obtain ⟨h1, h2, _⟩ := id hx
  obtain ⟨k1, k2, _⟩ := id hy
  obtain ⟨b, o, R, rc, _, _, hA, hrow, _, _, _, hints⟩ := hx.parts
  obtain ⟨b', o', R', rc', _, _, hB, hrow', _, _, _, hints'⟩ := hy.parts
  unfold maxLen at h2 k2
  by_cases hl : D.length = E.length
  · have hl' : ((D.length : Int) != (E.length : Int)) = false := by simp [hl]
    have HA := Lib.hid (eqM_all hl)
    have HL := Lib.hid hl
    have hlt : ∀ i : Nat, i < D.length → i < E.length := fun i hi => by omega
    clear hl
    go_enter Tryz.func23, Tryz.ntmps23
    go_wp2
    clear hl'
    go_loopg [5] (D.length) (fun g s5 wr => ∃ (i m : Nat), i + g = D.length ∧ s5 = .int .i64 i ∧ wr = w.drewN m ∧ Hid (allR (fun j => eqI (row D j) (row E j)) g i = eqM D E))
    case atStart => exact ⟨0, _, by omega, rfl, by first | rfl | exact drewN_0 _ | exact drewN_add _ _ _, Lib.hid (HA.out)⟩
    case round =>
      obtain ⟨i, mi, hi, rfl, rfl, Hi⟩ := hrel
      by_cases hini : i < D.length
      · obtain ⟨gi, rfl⟩ : ∃ g', gk = g' + 1 := ⟨gk - 1, by omega⟩
        have hini' : (i : Int) < (D.length : Nat) := by omega
        have hl2 := hlt i hini
        obtain rfl := hA (by omega)
        obtain rfl := hB (by omega)
        have c1 := hrow i hini
        have c2 := hrow' i hl2
        have i1 := hints i hini
        have i2 := hints' i hl2
        have HC := Lib.hid (fun W (e1 : Ints W (R i) (rc i) (row D i)) (e2 : Ints W (R' i) (rc' i) (row E i)) => sameInts_any (R i) (R' i) (rc i) (rc' i) (row D i) (row E i) W e1 e2)
        have I1 := Lib.hid i1
        have I2 := Lib.hid i2
        clear hrow hrow' hints hints' hlt i1 i2
        cases e : eqI (row D i) (row E i) with
        | true =>
          rw [e] at HC
          have E1 := Lib.hid e
          clear e
          go_wp2
          go_quiet ((go_at_call 49; (first | exact Calls.quiet_of_same (HC.out _ I1.out I2.out) | exact quiet_add_same (HC.out _ I1.out I2.out) | exact Calls.quiet_of (HC.out _ I1.out I2.out) | exact quiet_add (HC.out _ I1.out I2.out))))
          go_wp2
          go_roundg gi
          case measure => omega
          case rel => exact ⟨i + 1, _, by omega, by go_num, by first | rfl | exact drewN_0 _ | exact drewN_add _ _ _, Lib.hid (by rw [← Hi.out, allR, E1.out, Bool.true_and])⟩
        | false =>
          rw [e] at HC
          have E1 := Lib.hid e
          clear e
          go_wp2
          go_quiet ((go_at_call 49; (first | exact Calls.quiet_of_same (HC.out _ I1.out I2.out) | exact quiet_add_same (HC.out _ I1.out I2.out) | exact Calls.quiet_of (HC.out _ I1.out I2.out) | exact quiet_add (HC.out _ I1.out I2.out))))
          go_wp2
          go_ret
          exact ⟨ret_bool (by rw [← Hi.out, allR, E1.out]; rfl), _, by first | rfl | exact drewN_add _ _ _⟩
      · have hini' : ¬ (i : Int) < (D.length : Nat) := by omega
        obtain rfl : gk = 0 := by omega
        clear hrow hrow' hints hints' hlt
        go_wp2
        go_ret
        exact ⟨ret_bool (by rw [← Hi.out]; rfl), _, rfl⟩
    done
  · have hl' : ((D.length : Int) != (E.length : Int)) = true := by simp; omega
    have HL := Lib.hid (eqM_len hl)
    clear hl
    go_enter Tryz.func23, Tryz.ntmps23
    go_wp2
    go_ret
    exact ⟨ret_bool HL.out.symm, 0, rfl⟩

def szI (n : Nat) (l : Int) : Int := if l - n < 0 then -1 else l - n
def szR (D : List (List Int)) : Nat → Nat → Int → Int
  | 0, _, l => l
  | g + 1, i, l => if szI (row D i).length l < 0 then -1 else szR D g (i + 1) (szI (row D i).length l)
def szM (D : List (List Int)) (l : Int) : Int := if l - D.length < 0 then -1 else szR D D.length 0 (l - D.length)

theorem szI_bd (n : Nat) (l : Int) (hl1 : l ≤ 1048576) : -1 ≤ szI n l ∧ szI n l ≤ 1048576 := by
  unfold szI
  split <;> omega

/-- how many numbers rows hold -/
def total (D : List (List Int)) : Nat := (D.map List.length).sum
theorem szR_spec (D : List (List Int)) : ∀ g i l, i + g = D.length → 0 ≤ l → 0 ≤ szR D g i l → ((total (D.drop i) : Nat) : Int) ≤ l ∧ szR D g i l = l - (total (D.drop i) : Nat)
  | 0, i, l, hi, hl, h => by
    have : D.drop i = [] := List.drop_eq_nil_of_le (by omega)
    rw [this]; simp [total, szR, hl]
  | g + 1, i, l, hi, hl, h => by
    have hlt : i < D.length := by omega
    rw [szR] at h ⊢
    by_cases hz : szI (row D i).length l < 0
    · rw [if_pos hz] at h; omega
    · rw [if_neg hz] at h ⊢
      have e : szI (row D i).length l = l - (row D i).length := by
        unfold szI at hz ⊢
        by_cases q : l - ((row D i).length : Int) < 0
        · rw [if_pos q] at hz; omega
        · rw [if_neg q]
      obtain ⟨a, b⟩ := szR_spec D g (i + 1) (szI (row D i).length l) (by omega) (by omega) h
      rw [List.drop_eq_getElem_cons hlt]
      have et : total (D[i] :: D.drop (i + 1)) = (row D i).length + total (D.drop (i + 1)) := by
        rw [row_of hlt]
        show ((D[i].length :: (D.drop (i + 1)).map List.length).sum) = _
        rw [List.sum_cons]; rfl
      rw [et, b, e]
      rw [e] at a
      constructor <;> omega
theorem szM_spec {D : List (List Int)} {l : Int} (h : 0 ≤ szM D l) : ((D.length + total D : Nat) : Int) ≤ l ∧ szM D l = l - (D.length + total D : Nat) := by
  unfold szM at h ⊢
  by_cases q : l - (D.length : Int) < 0
  · rw [if_pos q] at h; omega
  · rw [if_neg q] at h ⊢
    obtain ⟨a, b⟩ := szR_spec D D.length 0 _ (by omega) (by omega) h
    simp only [List.drop_zero] at a b
    rw [b]
    constructor <;> omega
theorem le_total {D : List (List Int)} {r : List Int} (h : r ∈ D) : r.length ≤ total D := by
  induction D with
  | nil => cases h
  | cons a D ih =>
    have e : total (a :: D) = a.length + total D := by show ((a.length :: D.map List.length).sum) = _; rw [List.sum_cons]; rfl
    rw [e]
    rcases List.mem_cons.1 h with rfl | h
    · omega
    · have := ih h; omega
theorem row_le_total {D : List (List Int)} {i : Nat} (h : i < D.length) : (row D i).length ≤ total D := by
  rw [row_of h]
  exact le_total (List.getElem_mem h)
end Go.Proofs.YtnalcgcdohlfiaaGreatDoor
namespace Go.Proofs.YtnalcgcdohlfiaaGreatDoor
open Go.RowKit

theorem infoI : (Tryz.prog.info? 3).map (fun i => (i.zero, i.size, i.bytes)) = some (some (.int .i64 0), 1, 8) := by kernel_rfl
theorem infoR : (Tryz.prog.info? 47).map (fun i => (i.zero, i.size, i.bytes)) = some (some (.slice none 0 0), 1, 24) := by kernel_rfl

/-- the block of a slice that is not empty -/
def lb : Value → List Nat
  | .slice (some a) (_ + 1) _ => [a.block]
  | _ => []
/-- a slice value that holds the numbers xs from the head of a block of numbers on, none of them frozen -/
def Leaf (w : World) (v : Value) (xs : List Int) : Prop :=
  ∃ A c, v = .slice A xs.length c ∧ xs.length ≤ c ∧ c ≤ maxLen ∧
    (0 < xs.length → ∃ g cs, A = some ⟨g, 0, none⟩ ∧ w.heap[g]? = some (.cells cs 3 (0, 0)) ∧ ∀ j, j < xs.length → cs[j]? = some (.int .i64 (ix xs j)))

theorem heap_lt {w : World} {g : Nat} {o : Obj} (h : w.heap[g]? = some o) : g < w.heap.size := by
  rcases Nat.lt_or_ge g w.heap.size with hlt | hge
  · exact hlt
  · rw [Array.getElem?_eq_none hge] at h; cases h
theorem cell_cells {w : World} {g : Nat} {cs : Array Value} {t : TypeId} {fz : Nat × Nat} (h : w.heap[g]? = some (.cells cs t fz)) (j : Nat) : w.cell? ⟨g, j, none⟩ = cs[j]? := by
  simp [World.cell?, h]
theorem frozen_cells {w : World} {g : Nat} {cs : Array Value} {t : TypeId} (h : w.heap[g]? = some (.cells cs t (0, 0))) (j : Nat) : w.frozen? ⟨g, j, none⟩ = false := by
  simp [World.frozen?, h]
theorem Leaf.ints {w : World} {v : Value} {xs : List Int} (h : Leaf w v xs) : ∃ A c, v = .slice A xs.length c ∧ Ints w A c xs := by
  obtain ⟨A, c, rfl, h1, h2, h3⟩ := h
  refine ⟨A, c, rfl, h1, h2, ?_⟩
  by_cases h0 : 0 < xs.length
  · obtain ⟨g, cs, rfl, hg, hc⟩ := h3 h0
    exact ⟨g, 0, fun _ => rfl, fun j hj => by rw [Nat.zero_add, cell_cells hg, hc j hj]⟩
  · exact ⟨0, 0, fun h => absurd h h0, fun j hj => absurd hj (by omega)⟩
theorem Leaf.blocks {w : World} {v : Value} {xs : List Int} (h : Leaf w v xs) : ∀ g ∈ lb v, ∃ cs, w.heap[g]? = some (.cells cs 3 (0, 0)) := by
  obtain ⟨A, c, rfl, h1, h2, h3⟩ := h
  intro g hg
  cases e : xs.length with
  | zero => rw [e] at hg; cases A <;> simp [lb] at hg
  | succ n =>
    obtain ⟨g', cs, rfl, hb, _⟩ := h3 (by omega)
    rw [e] at hg
    simp [lb] at hg
    subst hg
    exact ⟨cs, hb⟩
theorem Leaf.lt {w : World} {v : Value} {xs : List Int} (h : Leaf w v xs) {g : Nat} (hg : g ∈ lb v) : g < w.heap.size := by
  obtain ⟨cs, hb⟩ := h.blocks g hg
  exact heap_lt hb
/-- a leaf stays where its block stays -/
theorem Leaf.keep {w w' : World} {v : Value} {xs : List Int} (h : Leaf w v xs) (hk : ∀ g ∈ lb v, w'.heap[g]? = w.heap[g]?) : Leaf w' v xs := by
  obtain ⟨A, c, rfl, h1, h2, h3⟩ := h
  refine ⟨A, c, rfl, h1, h2, fun h0 => ?_⟩
  obtain ⟨g, cs, rfl, hg, hc⟩ := h3 h0
  refine ⟨g, cs, rfl, (hk g ?_).trans hg, hc⟩
  obtain ⟨n, hn⟩ : ∃ n, xs.length = n + 1 := ⟨xs.length - 1, by omega⟩
  rw [hn]; simp [lb]
theorem Leaf.ext {w w' : World} {v : Value} {xs : List Int} (h : Leaf w v xs) (k : Ext w w') : Leaf w' v xs :=
  h.keep fun _ hg => k.block (h.lt hg)
theorem Leaf.nil (w : World) (A : Option Addr) (c : Nat) (hc : c ≤ maxLen) : Leaf w (.slice A 0 c) [] := ⟨A, c, rfl, Nat.zero_le _, hc, fun h => absurd h (by simp)⟩
theorem Leaf.of_row {w : World} {g n c : Nat} {xs : List Int} (h : w.rowIs g 3 n (fun j => .int .i64 (ix xs j))) (hn : n = xs.length) (h1 : n ≤ c) (hm : c ≤ maxLen) : Leaf w (.slice (some ⟨g, 0, none⟩) n c) xs := by
  subst hn
  obtain ⟨cs, hb, _, hc⟩ := h
  exact ⟨_, c, rfl, h1, hm, fun _ => ⟨g, cs, rfl, hb, hc⟩⟩
theorem ix_map (xs : List Int) : (xs.map (Value.int .i64)) = (List.range xs.length).map fun j => Value.int .i64 (ix xs j) := by
  refine List.ext_getElem (by simp) fun i h1 h2 => ?_
  simp at h1
  simp [ix_of h1]
theorem Leaf.of_own {w : World} {base : Nat} {v : Value} {n : Nat} {xs : List Int} (h : w.ownsRow base 3 1 v n (xs.map (Value.int .i64))) : Leaf w v xs ∧ ∀ g ∈ lb v, base ≤ g := by
  obtain ⟨h1, h2⟩ := h
  have hn : n = xs.length := by simpa using h1.symm
  subst hn
  rcases h2 with ⟨rfl, h0⟩ | ⟨g, cap, cur, rfl, hb, hg, hc, hm, hs, ht⟩
  · have : xs = [] := List.eq_nil_of_length_eq_zero h0
    subst this
    exact ⟨Leaf.nil w _ _ (Nat.zero_le _), fun g hg => by simp [lb] at hg⟩
  · refine ⟨⟨_, cap, rfl, hc, hm, fun _ => ⟨g, cur, rfl, hg, fun j hj => ?_⟩⟩, fun g' hg' => ?_⟩
    · have e : (cur.toList.take (xs.length * 1))[j]? = (xs.map (Value.int .i64))[j]? := by rw [ht]
      rw [List.getElem?_take, if_pos (by omega)] at e
      rw [← Array.getElem?_toList, e]
      simp [hj, ix_of hj]
    · cases e : xs.length with
      | zero => rw [e] at hg'; simp [lb] at hg'
      | succ n => rw [e] at hg'; simp [lb] at hg'; omega

/-- rows of one's own: each row a leaf, the slice of them in a block of another kind -/
def MatL (w : World) (A : Option Addr) (c : Nat) (D : List (List Int)) (V : Nat → Value) : Prop :=
  D.length ≤ c ∧ c ≤ maxLen ∧ ∃ b o, (0 < D.length → A = some ⟨b, o, none⟩ ∧ ∃ cs fz, w.heap[b]? = some (.cells cs 47 fz)) ∧ ∀ i, i < D.length → w.cell? ⟨b, o + i, none⟩ = some (V i) ∧ Leaf w (V i) (row D i)
/-- no two leaves lie in one block -/
def Dis (n : Nat) (V : Nat → Value) : Prop := ∀ i j, i < n → j < n → i ≠ j → ∀ g, g ∈ lb (V i) → g ∉ lb (V j)

theorem MatL.mat {w : World} {A : Option Addr} {c : Nat} {D : List (List Int)} {V : Nat → Value} (h : MatL w A c D V) : Mat w A c D := by
  obtain ⟨h1, h2, b, o, hA, hc⟩ := h
  refine ⟨h1, h2, b, o, fun h0 => (hA h0).1, fun i hi => ?_⟩
  obtain ⟨e, hl⟩ := hc i hi
  obtain ⟨Ar, cr, hv, hI⟩ := hl.ints
  exact ⟨Ar, cr, by rw [e, hv], hI⟩
theorem MatL.ext {w w' : World} {A : Option Addr} {c : Nat} {D : List (List Int)} {V : Nat → Value} (h : MatL w A c D V) (k : Ext w w') : MatL w' A c D V := by
  obtain ⟨h1, h2, b, o, hA, hc⟩ := h
  refine ⟨h1, h2, b, o, fun h0 => ?_, fun i hi => ⟨k.cell (hc i hi).1, (hc i hi).2.ext k⟩⟩
  obtain ⟨e, cs, fz, hb⟩ := hA h0
  exact ⟨e, cs, fz, (k.block (heap_lt hb)).trans hb⟩
theorem MatL.lt {w : World} {A : Option Addr} {c : Nat} {D : List (List Int)} {V : Nat → Value} (h : MatL w A c D V) {i g : Nat} (hi : i < D.length) (hg : g ∈ lb (V i)) : g < w.heap.size := by
  obtain ⟨_, _, b, o, _, hc⟩ := h
  exact (hc i hi).2.lt hg

/-- what a copy of numbers leaves -/
def FreshI (w : World) (xs : List Int) (e : Ending) (w' : World) : Prop :=
  ∃ v, e = .returned v ∧ Leaf w' v xs ∧ (∀ g ∈ lb v, w.heap.size ≤ g) ∧ Ext w w'
/-- what a copy of rows leaves -/
def FreshM (w : World) (D : List (List Int)) (e : Ending) (w' : World) : Prop :=
  ∃ A c V, e = .returned (.slice A D.length c) ∧ MatL w' A c D V ∧ Dis D.length V ∧ (∀ i, i < D.length → ∀ g ∈ lb (V i), w.heap.size ≤ g) ∧ Ext w w'

end Go.Proofs.YtnalcgcdohlfiaaGreatDoor
namespace Go.Proofs.YtnalcgcdohlfiaaGreatDoor
open Go.RowKit

theorem wrap_pow {k : Nat} (h : k ≤ 40) : wrap64 (2 ^ k) = 2 ^ k := by
  have h1 : (2 : Int) ^ k ≤ 2 ^ 40 := by exact_mod_cast Nat.pow_le_pow_right (by decide) h
  have h2 : (0 : Int) < 2 ^ k := Int.pow_pos (by decide)
  have h3 : (2 : Int) ^ 40 = 1099511627776 := by decide
  exact IntWalk.wrap64_in _ ⟨by omega, by omega⟩
theorem wrap_pow1 {k : Nat} (h : k ≤ 40) : wrap64 (wrap64 (2 ^ k) - 1) = 2 ^ k - 1 := by
  rw [wrap_pow h]
  have h1 : (2 : Int) ^ k ≤ 2 ^ 40 := by exact_mod_cast Nat.pow_le_pow_right (by decide) h
  have h2 : (0 : Int) < 2 ^ k := Int.pow_pos (by decide)
  have h3 : (2 : Int) ^ 40 = 1099511627776 := by decide
  exact IntWalk.wrap64_in _ ⟨by omega, by omega⟩
theorem spB_far {D : List (List Int)} (h : spB D = true) : farB D = true := by
  unfold spB at h
  simp only [Bool.and_eq_true] at h
  exact h.1
theorem spB_len {D : List (List Int)} (h : spB D = true) : 1 ≤ D.length ∧ D.length ≤ 6 := (farB_parts (spB_far h)).1

/-- a number tells one lot of a split of a space -/
def splitB (D : List (List Int)) (l : Int) : Bool := spB D && decide (2 ≤ D.length ∧ 1 ≤ l ∧ l < 2 ^ (D.length - 1))

set_option maxHeartbeats 1000000 in
theorem sSplitOk_any (A : Option Addr) (c : Nat) (D : List (List Int)) (l : Int) (w : World) (h : Mat w A c D) :
    Calls Tryz.prog 81 #[.slice A D.length c, .int .i64 l] w fun e w' => e = .returned (.bool (splitB D l)) ∧ ∃ m, w' = w.drewN m := by
  have HC := Lib.hid (SpaceOk_any A c D w h)
  have Hd := Lib.hid (show splitB D l = (spB D && decide (2 ≤ D.length ∧ 1 ≤ l ∧ l < 2 ^ (D.length - 1))) from rfl)
  cases hs : spB D with
  | false =>
    rw [hs] at HC
    have HF := Lib.hid (show splitB D l = false by rw [Hd.out, hs]; rfl)
    clear hs
    go_enter Tryz.func81, Tryz.ntmps81
    go_wp2_with (go_at_call 24; refine HC.out.mono ?_; rintro e w' ⟨rfl, m0, rfl⟩)
    go_ret
    exact ⟨ret_bool HF.out.symm, _, rfl⟩
  | true =>
    rw [hs] at HC
    obtain ⟨n1, n6⟩ := spB_len hs
    have HF := Lib.hid (show splitB D l = decide (2 ≤ D.length ∧ 1 ≤ l ∧ l < 2 ^ (D.length - 1)) by rw [Hd.out, hs]; rfl)
    have HP := Lib.hid (wrap_pow1 (k := D.length - 1) (by omega))
    clear hs Hd
    by_cases h2 : 2 ≤ D.length
    · have h2' : (1 : Int) < D.length := by omega
      go_enter Tryz.func81, Tryz.ntmps81
      go_wp2_with (first | (go_at_call 24; refine HC.out.mono ?_; rintro e w' ⟨rfl, m0, rfl⟩) | (go_at_call 53; refine (l1In_any _ _ _ _).mono ?_; rintro e w' ⟨rfl, rfl⟩))
      go_ret
      exact ⟨ret_bool (by rw [HF.out, HP.out]; unfold inB; rw [Bool.eq_iff_iff, decide_eq_true_iff, decide_eq_true_iff]; omega), _, rfl⟩
    · have h2' : ¬ (1 : Int) < D.length := by omega
      go_enter Tryz.func81, Tryz.ntmps81
      go_wp2_with (go_at_call 24; refine HC.out.mono ?_; rintro e w' ⟨rfl, m0, rfl⟩)
      go_ret
      exact ⟨ret_bool (by rw [HF.out]; exact (decide_eq_false (by omega)).symm), _, rfl⟩
end Go.Proofs.YtnalcgcdohlfiaaGreatDoor
namespace Go.Proofs.YtnalcgcdohlfiaaGreatDoor
open Go.RowKit

def wtB (ws : List Int) : Bool := allR (fun i => inB (ix ws i) 0 9) ws.length 0
/-- there is a weight for each point of a space -/
def weightsB (D : List (List Int)) (ws : List Int) : Bool := wtB ws && (spB D && decide (ws.length = D.length))

set_option maxHeartbeats 1000000 in
theorem sWeightsOk_any (A : Option Addr) (c : Nat) (D : List (List Int)) (B : Option Addr) (d : Nat) (ws : List Int) (w : World) (h : Mat w A c D) (hw : Ints w B d ws) :
    Calls Tryz.prog 78 #[.slice A D.length c, .slice B ws.length d] w fun e w' => e = .returned (.bool (weightsB D ws)) ∧ ∃ m, w' = w.drewN m := by
  have HC := Lib.hid (fun W (k : Mat W A c D) => SpaceOk_any A c D W k)
  have HM := Lib.hid h
  obtain ⟨h1, h2, b, o, hB, hcell⟩ := hw
  obtain ⟨g1, g2, _⟩ := h
  unfold maxLen at h2 g2
  have Hd := Lib.hid (show weightsB D ws = (wtB ws && (spB D && decide (ws.length = D.length))) from rfl)
  go_enter Tryz.func78, Tryz.ntmps78
  go_wp2
  go_loopg [5] (ws.length) (fun g s5 wr => ∃ (i m : Nat), i + g = ws.length ∧ s5 = .int .i64 i ∧ wr = w.drewN m ∧ Hid (allR (fun i => inB (ix ws i) 0 9) g i = wtB ws))
  case atStart => exact ⟨0, _, by omega, rfl, by first | rfl | exact drewN_0 _ | exact drewN_add _ _ _, Lib.hid (rfl)⟩
  case round =>
    obtain ⟨i, mi, hi, rfl, rfl, Hi⟩ := hrel
    by_cases hini : i < ws.length
    · obtain ⟨gi, rfl⟩ : ∃ g', gk = g' + 1 := ⟨gk - 1, by omega⟩
      have hini' : (i : Int) < (ws.length : Nat) := by omega
      obtain rfl := hB (by omega)
      have c1 := hcell i hini
      clear hcell
      cases e1 : inB (ix ws i) 0 9 with
      | false =>
        have E1 := Lib.hid e1
        go_wp2_with (go_at_call 53; refine (l1In_any _ _ _ _).mono ?_; rintro e w' ⟨rfl, rfl⟩)
        go_ret
        exact ⟨ret_bool (by rw [Hd.out, ← Hi.out, allR, E1.out]; rfl), _, rfl⟩
      | true =>
        have E1 := Lib.hid e1
        go_wp2_with (go_at_call 53; refine (l1In_any _ _ _ _).mono ?_; rintro e w' ⟨rfl, rfl⟩)
        go_roundg gi
        case measure => omega
        case rel => exact ⟨i + 1, _, by omega, by go_num, by first | rfl | exact drewN_0 _ | exact drewN_add _ _ _, Lib.hid (by rw [← Hi.out, allR, E1.out, Bool.true_and])⟩
    · have hini' : ¬ (i : Int) < (ws.length : Nat) := by omega
      obtain rfl : gk = 0 := by omega
      have HF := Lib.hid (show weightsB D ws = (spB D && decide (ws.length = D.length)) by rw [Hd.out, ← Hi.out]; rfl)
      clear Hd Hi hcell
      cases hs : spB D with
      | false =>
        rw [hs] at HC HF
        clear hs
        go_wp2_with (go_at_call 24; refine (HC.out _ (by exact HM.out)).mono ?_; rintro e w' ⟨rfl, m0, rfl⟩)
        go_ret
        exact ⟨ret_bool (by rw [HF.out]; rfl), _, by first | rfl | exact drewN_add _ _ _⟩
      | true =>
        rw [hs] at HC HF
        clear hs
        go_wp2_with (go_at_call 24; refine (HC.out _ (by exact HM.out)).mono ?_; rintro e w' ⟨rfl, m0, rfl⟩)
        go_ret
        exact ⟨ret_bool (by rw [HF.out, Bool.true_and, Bool.eq_iff_iff]; simp; omega), _, by first | rfl | exact drewN_add _ _ _⟩
end Go.Proofs.YtnalcgcdohlfiaaGreatDoor
namespace Go.Proofs.YtnalcgcdohlfiaaGreatDoor
open Go.RowKit

theorem b_dd {p q : Prop} [Decidable p] [Decidable q] (h : p ↔ q) : decide p = decide q := by rw [Bool.eq_iff_iff, decide_eq_true_iff, decide_eq_true_iff]; exact h
theorem b_td {q : Prop} [Decidable q] (h : q) : true = decide q := (decide_eq_true h).symm
theorem b_fd {q : Prop} [Decidable q] (h : ¬ q) : false = decide q := (decide_eq_false h).symm

/-- a space, and a point of it -/
def pointB (D : List (List Int)) (p : Int) : Bool := spB D && decide (0 ≤ p ∧ p < D.length)
theorem pointB_parts {D : List (List Int)} {p : Int} (h : pointB D p = true) : spB D = true ∧ ∃ k : Nat, p = k ∧ k < D.length := by
  unfold pointB at h
  simp only [Bool.and_eq_true, decide_eq_true_eq] at h
  exact ⟨h.1, p.toNat, by omega, by omega⟩

set_option maxHeartbeats 1000000 in
theorem hasPoint_any (A : Option Addr) (c : Nat) (D : List (List Int)) (p : Int) (w : World) (h : Mat w A c D) :
    Calls Tryz.prog 118 #[.slice A D.length c, .int .i64 p] w fun e w' => e = .returned (.bool (pointB D p)) ∧ ∃ m, w' = w.drewN m := by
  have HC := Lib.hid (isSpace_any A c D w h)
  have Hd := Lib.hid (show pointB D p = (spB D && decide (0 ≤ p ∧ p < D.length)) from rfl)
  cases hs : spB D with
  | false =>
    rw [hs] at HC
    have HF := Lib.hid (show pointB D p = false by rw [Hd.out, hs]; rfl)
    clear hs
    go_enter Tryz.func118, Tryz.ntmps118
    go_wp2_with (go_at_call 31; refine HC.out.mono ?_; rintro e w' ⟨rfl, m0, rfl⟩)
    go_ret
    exact ⟨ret_bool HF.out.symm, _, rfl⟩
  | true =>
    rw [hs] at HC
    have HF := Lib.hid (show pointB D p = decide (0 ≤ p ∧ p < D.length) by rw [Hd.out, hs]; rfl)
    clear hs Hd
    by_cases h1 : 0 ≤ p
    · by_cases h2 : p < D.length
      · go_enter Tryz.func118, Tryz.ntmps118
        go_wp2_with (go_at_call 31; refine HC.out.mono ?_; rintro e w' ⟨rfl, m0, rfl⟩)
        go_ret
        exact ⟨ret_bool (by rw [HF.out]; (first | exact b_td (by omega) | exact b_fd (by omega) | exact b_dd (by omega))), _, rfl⟩
      · go_enter Tryz.func118, Tryz.ntmps118
        go_wp2_with (go_at_call 31; refine HC.out.mono ?_; rintro e w' ⟨rfl, m0, rfl⟩)
        go_ret
        exact ⟨ret_bool (by rw [HF.out]; (first | exact b_td (by omega) | exact b_fd (by omega) | exact b_dd (by omega))), _, rfl⟩
    · go_enter Tryz.func118, Tryz.ntmps118
      go_wp2_with (go_at_call 31; refine HC.out.mono ?_; rintro e w' ⟨rfl, m0, rfl⟩)
      go_ret
      exact ⟨ret_bool (by rw [HF.out]; (first | exact b_td (by omega) | exact b_fd (by omega) | exact b_dd (by omega))), _, rfl⟩

/-- the greatest of numbers -/
def maxI (xs : List Int) : Int := itR (fun k s => max s (ix xs k)) (xs.length - 1) 1 (ix xs 0)

set_option maxHeartbeats 1000000 in
theorem slicesMax_any (A : Option Addr) (c : Nat) (xs : List Int) (w : World) (h : Ints w A c xs) (h0 : 0 < xs.length) :
    Calls Tryz.prog 97 #[.slice A xs.length c] w fun e w' => e = .returned (.int .i64 (maxI xs)) ∧ ∃ m, w' = w.drewN m := by
  obtain ⟨h1, h2, b, o, hA, hc⟩ := h
  unfold maxLen at h2
  obtain rfl := hA h0
  have h0' : ¬ (xs.length : Int) < 1 := by omega
  have c0 := hc 0 h0
  simp only [Nat.add_zero] at c0
  go_enter Tryz.func97, Tryz.ntmps97
  go_wp2
  clear c0
  go_loopg [3, 4] (xs.length - 1) (fun g s3 s4 wr => ∃ (i m : Nat) (s : Int), i + g = xs.length ∧ 1 ≤ i ∧ s3 = .int .i64 s ∧ s4 = .int .i64 i ∧ wr = w.drewN m ∧ Hid (itR (fun k s => max s (ix xs k)) g i s = maxI xs))
  case atStart => exact ⟨1, 0, _, by omega, by omega, rfl, rfl, rfl, Lib.hid rfl⟩
  case round =>
    obtain ⟨i, m, s, hi, hi1, rfl, rfl, rfl, Hi⟩ := hrel
    by_cases hini : i < xs.length
    · obtain ⟨gi, rfl⟩ : ∃ g', gk = g' + 1 := ⟨gk - 1, by omega⟩
      have hini' : (i : Int) < (xs.length : Nat) := by omega
      have c1 := hc i hini
      clear hc
      by_cases hle : ix xs i ≤ s
      · have HE := Lib.hid (Int.max_eq_left hle)
        go_wp2
        go_roundg gi
        case measure => omega
        case rel => exact ⟨i + 1, _, _, by omega, by omega, rfl, by go_num, rfl, Lib.hid (by rw [← Hi.out, itR, HE.out])⟩
      · have HE := Lib.hid (Int.max_eq_right (show s ≤ ix xs i by omega))
        go_wp2
        go_roundg gi
        case measure => omega
        case rel => exact ⟨i + 1, _, _, by omega, by omega, rfl, by go_num, rfl, Lib.hid (by rw [← Hi.out, itR, HE.out])⟩
    · have hini' : ¬ (i : Int) < (xs.length : Nat) := by omega
      obtain rfl : gk = 0 := by omega
      clear hc
      go_wp2
      go_ret
      exact ⟨ret_int (by rw [← Hi.out]; rfl), _, rfl⟩

/-- the sum of the distances from a point, each times a weight -/
def sumP (D : List (List Int)) (ws : List Int) (p : Nat) : Int := itR (fun k s => s + ix ws k * at2 D p k) ws.length 0 0
def sumV (D : List (List Int)) (ws : List Int) (p : Int) : Int := if weightsB D ws = true ∧ pointB D p = true then sumP D ws p.toNat else -1
theorem wtB_all {ws : List Int} (h : wtB ws = true) : ∀ i, i < ws.length → 0 ≤ ix ws i ∧ ix ws i ≤ 9 := fun i hi => of_decide_eq_true ((allR_all _ _).1 h i hi)
theorem weightsB_parts {D : List (List Int)} {ws : List Int} (h : weightsB D ws = true) : spB D = true ∧ ws.length = D.length ∧ ∀ i, i < ws.length → 0 ≤ ix ws i ∧ ix ws i ≤ 9 := by
  unfold weightsB at h
  simp only [Bool.and_eq_true, decide_eq_true_eq] at h
  exact ⟨h.2.1, h.2.2, wtB_all h.1⟩
theorem mul_bd {x y : Int} (h1 : 0 ≤ x) (h2 : x ≤ 9) (h3 : 0 ≤ y) (h4 : y ≤ 60) : 0 ≤ x * y ∧ x * y ≤ 540 := by
  have a := Int.mul_nonneg h1 h3
  have b : x * y ≤ 9 * 60 := Int.mul_le_mul h2 h4 h3 (by decide)
  omega

set_option maxHeartbeats 1000000 in
theorem sumFrom_any (A : Option Addr) (c : Nat) (D : List (List Int)) (B : Option Addr) (d : Nat) (ws : List Int) (p : Nat) (w : World) (h : Mat w A c D) (hw : Ints w B d ws) (hs : spB D = true) (hl : ws.length ≤ D.length)
    (hwt : ∀ i, i < ws.length → 0 ≤ ix ws i ∧ ix ws i ≤ 9) (hp : p < D.length) :
    Calls Tryz.prog 99 #[.slice A D.length c, .slice B ws.length d, .int .i64 p] w fun e w' => e = .returned (.int .i64 (sumP D ws p)) ∧ ∃ m, w' = w.drewN m := by
  obtain ⟨⟨hn1, hn6⟩, hsq, hcells⟩ := farB_parts (spB_far hs)
  clear hs
  obtain ⟨b, o, rc, rb, ro, hA, hrow, hlen, hcell, _⟩ := h.square hsq
  obtain rfl := hA (by omega)
  obtain ⟨h1, h2, bw, ow, hB, hwc⟩ := hw
  unfold maxLen at h2
  have hp' : (p : Int) < (D.length : Nat) := by omega
  go_enter Tryz.func99, Tryz.ntmps99
  go_wp2
  go_loopg [12, 7] (ws.length) (fun g s12 s7 wr => ∃ (i m : Nat) (s : Int), i + g = ws.length ∧ s12 = .int .i64 i ∧ s7 = .int .i64 s ∧ wr = w.drewN m ∧ 0 ≤ s ∧ s ≤ 540 * i ∧ Hid (itR (fun k s => s + ix ws k * at2 D p k) g i s = sumP D ws p))
  case atStart => exact ⟨0, _, _, by omega, rfl, rfl, by first | rfl | exact drewN_0 _ | exact drewN_add _ _ _, by omega, by omega, Lib.hid (rfl)⟩
  case round =>
    obtain ⟨i, mi, s, hi, rfl, rfl, rfl, hs0, hs1, Hi⟩ := hrel
    by_cases hini : i < ws.length
    · obtain ⟨gi, rfl⟩ : ∃ g', gk = g' + 1 := ⟨gk - 1, by omega⟩
      have hini' : (i : Int) < (ws.length : Nat) := by omega
      obtain rfl := hB (by omega)
      have r1 := hrow p hp
      have c1 := hwc i hini
      have c2 := hcell p hp i (by omega)
      obtain ⟨q1, q2, -, -⟩ := hcells p hp i (by omega)
      obtain ⟨q3, q4⟩ := hwt i hini
      have hin2 : (i : Int) < (D.length : Nat) := by omega
      obtain ⟨q5, q6⟩ := mul_bd q3 q4 q1 q2
      clear hrow hcell hcells hlen hwc hwt
      go_wp2
      go_roundg gi
      case measure => omega
      case rel => exact ⟨i + 1, _, s + ix ws i * at2 D p i, by omega, by go_num, by first | rfl | go_num, by first | rfl | exact drewN_0 _ | exact drewN_add _ _ _, by omega, by omega, Lib.hid (by rw [← Hi.out]; rfl)⟩
    · have hini' : ¬ (i : Int) < (ws.length : Nat) := by omega
      obtain rfl : gk = 0 := by omega
      clear hrow hcell hcells hlen hwc hwt
      go_wp2
      go_ret
      exact ⟨ret_int (by rw [← Hi.out]; rfl), _, rfl⟩

set_option maxHeartbeats 1000000 in
theorem sSumFrom_any (A : Option Addr) (c : Nat) (D : List (List Int)) (B : Option Addr) (d : Nat) (ws : List Int) (p : Int) (w : World) (h : Mat w A c D) (hw : Ints w B d ws) :
    Calls Tryz.prog 79 #[.slice A D.length c, .slice B ws.length d, .int .i64 p] w fun e w' => e = .returned (.int .i64 (sumV D ws p)) ∧ ∃ m, w' = w.drewN m := by
  have HM := Lib.hid h
  have HI := Lib.hid hw
  have hcm := h.2.1
  have hlc := h.1
  unfold maxLen at hcm
  have Hd := Lib.hid (show sumV D ws p = if weightsB D ws = true ∧ pointB D p = true then sumP D ws p.toNat else -1 from rfl)
  have HW := Lib.hid (fun W (k : Mat W A c D) (k2 : Ints W B d ws) => sWeightsOk_any A c D B d ws W k k2)
  clear hw
  cases e1 : weightsB D ws with
  | false =>
    have HF := Lib.hid (show sumV D ws p = -1 by rw [Hd.out, e1]; rfl)
    rw [e1] at HW
    clear e1
    go_enter Tryz.func79, Tryz.ntmps79
    go_wp2_with fail
    refine (HW.out _ (HM.out.ext (by repeat (first | exact Ext.refl _ | assumption | apply Ext.drewN' | apply Ext.alloc' | refine Ext.trans ?_ (by assumption)))) (HI.out.ext (by repeat (first | exact Ext.refl _ | assumption | apply Ext.drewN' | apply Ext.alloc' | refine Ext.trans ?_ (by assumption))))).mono ?_
    rintro e w1 ⟨rfl, m1, rfl⟩
    go_wp2
    go_ret
    exact ⟨ret_int HF.out.symm, _, rfl⟩
  | true =>
    obtain ⟨hs, hl, hwt⟩ := weightsB_parts e1
    cases e2 : inB p 0 (D.length - 1) with
    | false =>
      have e3 : pointB D p = false := by
        have := of_decide_eq_false e2
        unfold pointB; rw [hs, Bool.true_and]; exact decide_eq_false (by omega)
      have HF := Lib.hid (show sumV D ws p = -1 by rw [Hd.out, e1, e3]; rfl)
      rw [e1] at HW
      clear e1 e3 hs hl hwt
      go_enter Tryz.func79, Tryz.ntmps79
      go_wp2_with fail
      refine (HW.out _ (HM.out.ext (by repeat (first | exact Ext.refl _ | assumption | apply Ext.drewN' | apply Ext.alloc' | refine Ext.trans ?_ (by assumption)))) (HI.out.ext (by repeat (first | exact Ext.refl _ | assumption | apply Ext.drewN' | apply Ext.alloc' | refine Ext.trans ?_ (by assumption))))).mono ?_
      rintro e w1 ⟨rfl, m1, rfl⟩
      go_wp2_with fail
      refine (l1In_any _ _ _ _).mono ?_
      rintro e w2 ⟨rfl, rfl⟩
      go_wp2
      go_ret
      exact ⟨ret_int HF.out.symm, _, by first | rfl | exact drewN_add _ _ _⟩
    | true =>
      have e3 : pointB D p = true := by
        have := of_decide_eq_true e2
        unfold pointB; rw [hs, Bool.true_and]; exact decide_eq_true (by omega)
      obtain ⟨_, q, rfl, hq⟩ := pointB_parts e3
      have HF := Lib.hid (show sumV D ws q = sumP D ws q by rw [Hd.out, e1, e3]; rfl)
      have HL := Lib.hid hl
      have hl1 : ws.length ≤ D.length := by omega
      have hl2 : D.length ≤ ws.length := by omega
      have HS0 := Lib.hid (show sumP D ws q = itR (fun k s => s + ix ws k * at2 D q k) D.length 0 0 by unfold sumP; rw [hl])
      rw [e1] at HW
      obtain ⟨⟨hn1, hn6⟩, hsq, hcells⟩ := farB_parts (spB_far hs)
      obtain ⟨b, o, rc, rb, ro, hA, hrow, hlen, hcell, _⟩ := h.square hsq
      obtain rfl := hA (by omega)
      obtain ⟨k1, k2, bw, ow, hB, hwc⟩ := HI.out
      unfold maxLen at k2
      have hq' : (q : Int) < (D.length : Nat) := by omega
      clear e1 e3 hs hl
      go_enter Tryz.func79, Tryz.ntmps79
      go_wp2_with fail
      refine (HW.out _ (HM.out.ext (by repeat (first | exact Ext.refl _ | assumption | apply Ext.drewN' | apply Ext.alloc' | refine Ext.trans ?_ (by assumption)))) (HI.out.ext (by repeat (first | exact Ext.refl _ | assumption | apply Ext.drewN' | apply Ext.alloc' | refine Ext.trans ?_ (by assumption))))).mono ?_
      rintro e w1 ⟨rfl, m1, rfl⟩
      go_wp2_with fail
      refine (l1In_any _ _ _ _).mono ?_
      rintro e w2 ⟨rfl, rfl⟩
      go_wp2
      clear e2
      go_loopg [8, 7] (D.length) (fun g s8 s7 wr => ∃ (i m : Nat) (s : Int), i + g = D.length ∧ s8 = .int .i64 i ∧ s7 = .int .i64 s ∧ wr = w.drewN m ∧ 0 ≤ s ∧ s ≤ 540 * i ∧ Hid (itR (fun k s => s + ix ws k * at2 D q k) g i s = sumP D ws q))
      case atStart => exact ⟨0, _, _, by omega, rfl, rfl, by first | rfl | exact drewN_0 _ | exact drewN_add _ _ _, by omega, by omega, Lib.hid (HS0.out.symm)⟩
      case round =>
        obtain ⟨i, mi, s, hi, rfl, rfl, rfl, hs0, hs1, Hi⟩ := hrel
        by_cases hini : i < D.length
        · obtain ⟨gi, rfl⟩ : ∃ g', gk = g' + 1 := ⟨gk - 1, by omega⟩
          have hini' : (i : Int) < (D.length : Nat) := by omega
          obtain rfl := hB (by omega)
          have r1 := hrow q hq
          have c1 := hwc i (by omega)
          have c2 := hcell q hq i (by omega)
          obtain ⟨q1, q2, -, -⟩ := hcells q hq i (by omega)
          obtain ⟨q3, q4⟩ := hwt i (by omega)
          have hin2 : (i : Int) < (ws.length : Nat) := by omega
          obtain ⟨q5, q6⟩ := mul_bd q3 q4 q1 q2
          clear hrow hcell hcells hlen hwc hwt
          go_wp2
          go_quiet (fail)
          go_wp2
          go_roundg gi
          case measure => omega
          case rel => exact ⟨i + 1, _, s + ix ws i * at2 D q i, by omega, by go_num, by first | rfl | go_num, by first | rfl | exact drewN_0 _ | exact drewN_add _ _ _, by omega, by omega, Lib.hid (by rw [← Hi.out]; rfl)⟩
        · have hini' : ¬ (i : Int) < (D.length : Nat) := by omega
          obtain rfl : gk = 0 := by omega
          clear hrow hcell hcells hlen hwc hwt
          go_wp2
          go_ret
          exact ⟨ret_int (by rw [HF.out, ← Hi.out]; rfl), _, by first | rfl | exact drewN_add _ _ _⟩
end Go.Proofs.YtnalcgcdohlfiaaGreatDoor
namespace Go.Proofs.YtnalcgcdohlfiaaGreatDoor
open Go.RowKit

/-- what a call that began in the world w0 has collected so far: the slice v, of element type E, holds xs -/
def Acc (w0 W : World) (E : TypeId) (v : Value) (xs : List Value) : Prop := Ext w0 W ∧ W.ownsRow w0.heap.size E 1 v xs.length xs

theorem Acc.x {w0 W : World} {E : TypeId} {v : Value} {xs : List Value} (h : Acc w0 W E v xs) : Ext w0 W := h.1
theorem Acc.empty {w0 w : World} (E : TypeId) (h : Ext w0 w) : Acc w0 (w.alloc (.cells #[] E)) E (.slice (some ⟨w.heap.size, 0, none⟩) 0 0) [] :=
  ⟨h.alloc' _, World.ownsRow_made w #[] 0 h.size (Nat.zero_le _) rfl⟩
theorem Acc.nil {w0 w : World} (E : TypeId) (h : Ext w0 w) : Acc w0 w E (.slice none 0 0) [] := ⟨h, World.ownsRow_nil _ _ _ _⟩
theorem own_lt {w : World} {base : Nat} {e : TypeId} {v : Value} {n : Nat} {xs : List Value} (h : w.ownsRow base e 1 v n xs) {g : Nat} (hg : v.ownBlock = some g) : g < w.heap.size := (h.lt g hg).2
theorem Acc.on {w0 W W' : World} {E : TypeId} {v : Value} {xs : List Value} (h : Acc w0 W E v xs) (k : Ext W W') : Acc w0 W' E v xs := by
  obtain ⟨h1, h2⟩ := h
  refine ⟨h1.trans k, h2.1, ?_⟩
  rcases h2.2 with h3 | ⟨g, cap, cur, e1, e2, e3, e4⟩
  · exact .inl h3
  · exact .inr ⟨g, cap, cur, e1, e2, (k.block (heap_lt e3)).trans e3, e4⟩
/-- what stands beside the row that is appended to -/
def Beside (v : Value) (W W' : World) : Prop := W.heap.size ≤ W'.heap.size ∧ ∀ g, g < W.heap.size → some g ≠ v.ownBlock → W'.heap[g]? = W.heap[g]?
theorem Beside.leaf {v : Value} {W W' : World} {base : Nat} {E : TypeId} {n : Nat} {xs : List Value} (h : Beside v W W') (ho : W.ownsRow base E 1 v n xs) (hE : E ≠ 3) {u : Value} {ys : List Int} (hl : Leaf W u ys) : Leaf W' u ys :=
  hl.keep fun g hg => h.2 g (hl.lt hg) fun e => by
    obtain ⟨cs, hb⟩ := hl.blocks g hg
    rcases ho.2 with ⟨rfl, _⟩ | ⟨g', cap, cur, rfl, _, hg', _⟩
    · simp [Value.ownBlock] at e
    · simp [Value.ownBlock] at e
      subst e
      rw [hb] at hg'
      injection hg' with hg'
      injection hg' with _ ht
      exact hE ht.symm
theorem Beside.block {v : Value} {W W' : World} {base : Nat} {E T : TypeId} {n g : Nat} {xs : List Value} {cs : Array Value} {fz : Nat × Nat} (h : Beside v W W') (ho : W.ownsRow base E 1 v n xs) (hE : E ≠ T) (hg : W.heap[g]? = some (.cells cs T fz)) : W'.heap[g]? = some (.cells cs T fz) := by
  rw [h.2 g (heap_lt hg) ?_]
  · exact hg
  · intro e
    rcases ho.2 with ⟨rfl, _⟩ | ⟨g', cap, cur, rfl, _, hg', _⟩
    · simp [Value.ownBlock] at e
    · simp [Value.ownBlock] at e
      subst e
      rw [hg] at hg'
      injection hg' with hg'
      injection hg' with _ ht
      exact hE ht.symm

theorem Beside.leaf' {v : Value} {W W' : World} (h : Beside v W W') {u : Value} {ys : List Int} (hl : Leaf W u ys) (hne : ∀ g ∈ lb u, some g ≠ v.ownBlock) : Leaf W' u ys :=
  hl.keep fun g hg => h.2 g (hl.lt hg) (hne g hg)
/-- where the row lies that has been appended to -/
def Stays (v v' : Value) (n : Nat) : Prop := v'.ownBlock = v.ownBlock ∨ v'.ownBlock = some n

/-- ONE ELEMENT MORE: 'out = append(out, x)' -/
theorem wp_app {P : Program} {ops : Array Oper} {rest : List Oper} {o : Oper} {a : Act} {Q : Exit → Act → World → Prop} {w0 W : World} {T E : TypeId} {z : Value} {bytes : Nat}
    (ht : P.underlying T = some (.slice E)) (hinfo : (P.info? E).map (fun i => (i.zero, i.size, i.bytes)) = some (some z, 1, bytes)) (hz1 : z.cells.size = 1) (hby : bytes ≤ 64)
    (hgd : o.guard = none) (s x : Operand) (ho : o.op = .call { callee := .builtin .append, args := #[s, x], argTypes := #[T, T] })
    (v u : Value) (xs : List Value) (hs : a.eval s = v) (hx : a.eval x = .slice (some ⟨W.heap.size, 0, none⟩) 1 1) (hu : u.oneCell' = true) (hX : Acc w0 W E v xs) (hl : xs.length ≤ 10000000)
    (h : ∀ v' w', Acc w0 w' E v' (xs ++ [u]) → Beside v W w' → Stays v v' (W.heap.size + 1) → wpList P ops Q rest (a.put o.dst v') w') : wpList P ops Q (o :: rest) a (W.alloc (.cells #[u] E)) := by
  obtain ⟨i0, hi, hz, hsz, hb⟩ := info_parts hinfo
  obtain ⟨hx0, hown⟩ := hX
  have hnews : ∀ j y, [u][j]? = some y → (W.alloc (.cells #[u] E)).cell? ((⟨W.heap.size, 0, none⟩ : Addr).add j) = some y := by
    intro j y hj
    cases j with
    | zero =>
      simp at hj
      subst hj
      have hn := heap_alloc_new W (.cells #[u] E)
      show (W.alloc (.cells #[u] E)).cell? ⟨W.heap.size, 0, none⟩ = some u
      rw [cell_cells hn]
      rfl
    | succ j => simp at hj
  have hbytes : (xs.length + 1) * bytes ≤ 140737488355328 := by
    have : (xs.length + 1) * bytes ≤ 10000001 * 64 := Nat.mul_le_mul (by omega) hby
    omega
  obtain ⟨v', w', hr, h2, h3, _, h5⟩ := run_append_own_at (P := P) (w := W.alloc (.cells #[u] E)) w0.heap.size T o.type E i0 z 1 bytes ht hi hz hsz hb hz1 (by decide) v xs.length xs (hown.alloc _) ⟨W.heap.size, 0, none⟩ 1 1 [u] rfl hnews (by simpa using hu)
    (by unfold maxLen; omega) hbytes (by have := hx0.size; simp; omega)
  refine wpList_plain hgd fun K hK => ?_
  unfold Oper.wp execOp
  simp only [ho, resolve, invoke, builtin, Sem.run_bind, Sem.run_pure, Result.andThen_ok, List.map_toArray, List.map_cons, List.map_nil, hs, hx, hr]
  have hrow : ∀ k, v.ownBlock = some k → w0.heap.size ≤ k := fun k hk => (hown.lt k hk).1
  have hsz : (W.alloc (.cells #[u] E)).heap.size = W.heap.size + 1 := by simp
  have h4 := h3.size
  have h6 := hx0.size
  refine hK _ _ (h v' w' ⟨Below.grown (hx0.alloc' _) h3 (by omega) hrow, by simpa using h2⟩ ⟨by omega, fun g hg hne => ?_⟩ (by rw [hsz] at h5; exact h5))
  exact (h3.block g (by omega) hne).trans (Below.heap_alloc W _ g hg)
end Go.Proofs.YtnalcgcdohlfiaaGreatDoor
namespace Go.Proofs.YtnalcgcdohlfiaaGreatDoor
open Go.RowKit

/-- nothing has turned but the blocks of S -/
def Only (S : Nat → Prop) (w w' : World) : Prop := w'.os = w.os ∧ w'.tape = w.tape ∧ w'.output = w.output ∧ w'.heap.size = w.heap.size ∧ ∀ k, ¬ S k → w'.heap[k]? = w.heap[k]?
theorem Only.refl (S : Nat → Prop) (w : World) : Only S w w := ⟨rfl, rfl, rfl, rfl, fun _ _ => rfl⟩
theorem Only.trans {S : Nat → Prop} {a b c : World} (h : Only S a b) (k : Only S b c) : Only S a c :=
  ⟨k.1.trans h.1, k.2.1.trans h.2.1, k.2.2.1.trans h.2.2.1, k.2.2.2.1.trans h.2.2.2.1, fun i hi => (k.2.2.2.2 i hi).trans (h.2.2.2.2 i hi)⟩
theorem Only.mono {S T : Nat → Prop} {a b : World} (h : Only S a b) (k : ∀ g, S g → T g) : Only T a b :=
  ⟨h.1, h.2.1, h.2.2.1, h.2.2.2.1, fun i hi => h.2.2.2.2 i fun hs => hi (k i hs)⟩
theorem Only.drewN (S : Nat → Prop) (w : World) (m : Nat) : Only S w (w.drewN m) := ⟨rfl, rfl, rfl, rfl, fun _ _ => rfl⟩
theorem Only.set {S : Nat → Prop} (w : World) {p : Addr} (hp : S p.block) (u : Value) : Only S w (w.setCell p u) :=
  ⟨rfl, rfl, rfl, by simp [World.setCell], fun k hk => Below.heap_setCell _ _ _ _ fun e => hk (by rw [e]; exact hp)⟩
/-- what wrote only to blocks that are later than the world a leaves what was there -/
theorem Only.ext {S : Nat → Prop} {a w w' : World} (h : Ext a w) (k : Only S w w') (hs : ∀ g, S g → a.heap.size ≤ g) : Ext a w' :=
  ⟨k.1.trans (Below.os h), k.2.1.trans (Below.tape h), k.2.2.1.trans (Below.output h), by rw [k.2.2.2.1]; exact h.size, fun i hi => (k.2.2.2.2 i fun hg => by have := hs i hg; omega).trans (Below.block h i hi)⟩
theorem Leaf.only {S : Nat → Prop} {w w' : World} {v : Value} {xs : List Int} (h : Leaf w v xs) (k : Only S w w') (hs : ∀ g ∈ lb v, ¬ S g) : Leaf w' v xs := h.keep fun g hg => k.2.2.2.2 g (hs g hg)

/-- consecutive numbers -/
def mk (k : Int) (n : Nat) : List Int := (List.range n).map fun j => k + (j : Nat)
theorem mk_len (k : Int) (n : Nat) : (mk k n).length = n := by simp [mk]
theorem ix_mk {k : Int} {n j : Nat} (h : j < n) : ix (mk k n) j = k + j := by rw [ix_of (by rw [mk_len]; exact h)]; simp [mk]
/-- the first i of them, and what was there -/
def mixed (k : Int) (xs : List Int) (i : Nat) : List Int := (List.range xs.length).map fun j => if j < i then k + (j : Nat) else ix xs j
theorem mixed_len (k : Int) (xs : List Int) (i : Nat) : (mixed k xs i).length = xs.length := by simp [mixed]
theorem ix_mixed {k : Int} {xs : List Int} {i j : Nat} (h : j < xs.length) : ix (mixed k xs i) j = if j < i then k + (j : Nat) else ix xs j := by
  rw [ix_of (by rw [mixed_len]; exact h)]; simp [mixed]
theorem mixed_0 (k : Int) (xs : List Int) : mixed k xs 0 = xs := ext_ix (mixed_len _ _ _) fun i hi => by rw [mixed_len] at hi; rw [ix_mixed hi, if_neg (by omega)]
theorem mixed_all (k : Int) (xs : List Int) : mixed k xs xs.length = mk k xs.length := ext_ix (by rw [mixed_len, mk_len]) fun i hi => by rw [mixed_len] at hi; rw [ix_mixed hi, if_pos hi, ix_mk hi]

theorem Leaf.mark {w : World} {g c i : Nat} {k : Int} {xs : List Int} (h : Leaf w (.slice (some ⟨g, 0, none⟩) xs.length c) (mixed k xs i)) (hi : i < xs.length) :
    w.cell? ⟨g, i, none⟩ = some (.int .i64 (ix xs i)) ∧ w.frozen? ⟨g, i, none⟩ = false ∧ g < w.heap.size ∧
    Leaf (w.setCell ⟨g, i, none⟩ (.int .i64 (k + i))) (.slice (some ⟨g, 0, none⟩) xs.length c) (mixed k xs (i + 1)) := by
  obtain ⟨A, c', e, h1, h2, h3⟩ := h
  injection e with e1 e2 e3
  subst e1; subst e3
  obtain ⟨g', cs, ea, hb, hc⟩ := h3 (by rw [mixed_len]; omega)
  injection ea with ea; injection ea with ea; subst ea
  rw [mixed_len] at h1 hc
  have hci := hc i hi
  rw [ix_mixed hi, if_neg (by omega)] at hci
  refine ⟨by rw [cell_cells hb, hci], frozen_cells hb i, heap_lt hb, _, _, by rw [mixed_len], by rw [mixed_len]; exact h1, h2, fun _ => ⟨g, cs.setIfInBounds i (.int .i64 (k + i)), rfl, ?_, fun j hj => ?_⟩⟩
  · simp [World.setCell, Array.getElem?_modify, hb]
  · rw [mixed_len] at hj
    have hsz : i < cs.size := (Array.getElem?_eq_some_iff.1 hci).1
    rw [ix_mixed hj, Array.getElem?_setIfInBounds]
    by_cases e : i = j
    · subst e; simp [hsz]
    · rw [if_neg e, hc j hj, ix_mixed hj]
      by_cases hlt : j < i
      · rw [if_pos hlt, if_pos (by omega)]
      · rw [if_neg hlt, if_neg (by omega)]

def heldR (xs : List Int) : Nat → Nat → Int → Int
  | 0, _, k => k
  | g + 1, i, k => if ix xs i = k then heldR xs g (i + 1) (k + 1) else -1
def heldI (xs : List Int) (k : Int) : Int := heldR xs xs.length 0 k
theorem heldR_mk (k : Int) (n : Nat) : ∀ g i, i + g = n → heldR (mk k n) g i (k + i) = k + n
  | 0, i, h => by simp only [heldR]; omega
  | g + 1, i, h => by
    rw [heldR, if_pos (ix_mk (by omega))]
    have := heldR_mk k n g (i + 1) (by omega)
    rw [show k + (i : Int) + 1 = k + ((i + 1 : Nat) : Int) by omega]
    exact this
theorem heldI_mk (k : Int) (n : Nat) : heldI (mk k n) k = k + n := by
  have := heldR_mk k n n 0 (by omega)
  unfold heldI
  rw [mk_len]
  simpa using this
theorem heldR_bd (xs : List Int) : ∀ g i k, 0 ≤ k → -1 ≤ heldR xs g i k ∧ heldR xs g i k ≤ k + g
  | 0, i, k, h => by simp only [heldR]; omega
  | g + 1, i, k, h => by
    rw [heldR]
    split
    · have := heldR_bd xs g (i + 1) (k + 1) (by omega); omega
    · omega

theorem leafI {w : World} {A : Option Addr} {c : Nat} {xs : List Int} (h : Leaf w (.slice A xs.length c) xs) : Ints w A c xs := by
  obtain ⟨A', c', e, hI⟩ := h.ints
  injection e with e1 e2 e3
  subst e1; subst e3
  exact hI
theorem leafmk {w : World} {A : Option Addr} {c n : Nat} {k : Int} (h : Leaf w (.slice A n c) (mk k n)) : Leaf w (.slice A (mk k n).length c) (mk k n) := by rw [mk_len]; exact h
/-- the leaves of rows -/
def LV (n : Nat) (V : Nat → Value) (g : Nat) : Prop := ∃ i, i < n ∧ g ∈ lb (V i)
theorem MatL.only {S : Nat → Prop} {w w' : World} {A : Option Addr} {c : Nat} {D : List (List Int)} {V : Nat → Value} (h : MatL w A c D V) (k : Only S w w') (hs : ∀ g, LV D.length V g → ¬ S g)
    (hI : ∀ g, S g → ∃ cs, w.heap[g]? = some (.cells cs 3 (0, 0))) : MatL w' A c D V := by
  obtain ⟨h1, h2, b, o, hA, hc⟩ := h
  have hb : 0 < D.length → ¬ S b := fun h0 hS => by
    obtain ⟨_, cs, fz, hb⟩ := hA h0
    obtain ⟨cs', hb'⟩ := hI b hS
    rw [hb] at hb'
    injection hb' with hb'
    injection hb' with _ ht
    exact absurd ht (by decide)
  refine ⟨h1, h2, b, o, fun h0 => ?_, fun i hi => ?_⟩
  · obtain ⟨e, cs, fz, hbb⟩ := hA h0
    exact ⟨e, cs, fz, (k.2.2.2.2 b (hb h0)).trans hbb⟩
  · obtain ⟨e, hl⟩ := hc i hi
    refine ⟨?_, hl.only k fun g hg => hs g ⟨i, hi, hg⟩⟩
    rw [World.cell?_of_block (w := w) (k.2.2.2.2 b (hb (by omega)))]
    exact e
theorem MatL.isI {w : World} {A : Option Addr} {c : Nat} {D : List (List Int)} {V : Nat → Value} (h : MatL w A c D V) {g : Nat} (hg : LV D.length V g) : ∃ cs, w.heap[g]? = some (.cells cs 3 (0, 0)) := by
  obtain ⟨i, hi, hm⟩ := hg
  obtain ⟨_, _, b, o, _, hc⟩ := h
  exact (hc i hi).2.blocks g hm

/-- how many numbers the first rows hold -/
def pre (D : List (List Int)) (i : Nat) : Nat := total (D.take i)
theorem total_cons (r : List Int) (D : List (List Int)) : total (r :: D) = r.length + total D := by show ((r.length :: D.map List.length).sum) = _; rw [List.sum_cons]; rfl
theorem total_app (D E : List (List Int)) : total (D ++ E) = total D + total E := by
  induction D with
  | nil => simp [total]
  | cons r D ih => rw [List.cons_append, total_cons, total_cons, ih]; omega
theorem pre_succ {D : List (List Int)} {i : Nat} (h : i < D.length) : pre D (i + 1) = pre D i + (row D i).length := by
  unfold pre
  rw [List.take_succ_eq_append_getElem h, total_app, total_cons, row_of h]
  simp [total]
theorem pre_0 (D : List (List Int)) : pre D 0 = 0 := by simp [pre, total]
theorem pre_all (D : List (List Int)) : pre D D.length = total D := by simp [pre]
theorem pre_le {D : List (List Int)} (i : Nat) : pre D i ≤ total D := by
  have : total D = total (D.take i) + total (D.drop i) := by rw [← total_app, List.take_append_drop]
  unfold pre; omega
/-- rows of marks, the first i of them written -/
def mixM (D : List (List Int)) (k : Int) (i : Nat) : List (List Int) := (List.range D.length).map fun j => if j < i then mk (k + pre D j) (row D j).length else row D j
def markM (D : List (List Int)) (k : Int) : List (List Int) := mixM D k D.length
theorem mixM_len (D : List (List Int)) (k : Int) (i : Nat) : (mixM D k i).length = D.length := by simp [mixM]
theorem row_mixM {D : List (List Int)} {k : Int} {i j : Nat} (h : j < D.length) : row (mixM D k i) j = if j < i then mk (k + pre D j) (row D j).length else row D j := by
  rw [row_of (by rw [mixM_len]; exact h)]; simp [mixM]
theorem mixM_0 (D : List (List Int)) (k : Int) : mixM D k 0 = D := ext_row (mixM_len _ _ _) fun i hi => by rw [mixM_len] at hi; rw [row_mixM hi, if_neg (by omega)]
theorem row_mixM_len {D : List (List Int)} {k : Int} {i j : Nat} (h : j < D.length) : (row (mixM D k i) j).length = (row D j).length := by
  rw [row_mixM h]; split
  · rw [mk_len]
  · rfl

def heldRR (D : List (List Int)) : Nat → Nat → Int → Int
  | 0, _, k => k
  | g + 1, i, k => if heldI (row D i) k < 0 then -1 else heldRR D g (i + 1) (heldI (row D i) k)
def heldM (D : List (List Int)) (k : Int) : Int := heldRR D D.length 0 k
theorem heldM_mark (D : List (List Int)) (k : Int) (hk : 0 ≤ k) : heldM (markM D k) k = k + total D := by
  have key : ∀ g i, i + g = D.length → heldRR (markM D k) g i (k + pre D i) = k + total D := by
    intro g
    induction g with
    | zero => intro i h; have e : i = D.length := by omega
              subst e; rw [heldRR, pre_all]
    | succ g ih =>
      intro i h
      have hi : i < D.length := by omega
      have e : heldI (row (markM D k) i) (k + pre D i) = k + pre D (i + 1) := by
        unfold markM
        rw [row_mixM hi, if_pos hi, heldI_mk, pre_succ hi]; omega
      rw [heldRR, e, if_neg (by omega)]
      exact ih (i + 1) (by omega)
  have := key D.length 0 (by omega)
  unfold heldM
  rw [show (markM D k).length = D.length from mixM_len _ _ _]
  rw [pre_0] at this
  simpa using this

theorem total_le_of {D E : List (List Int)} (h : D.length = E.length) (hl : ∀ i, i < D.length → (row D i).length = (row E i).length) : total D = total E := by
  have e : D.map List.length = E.map List.length := List.ext_getElem (by simp [h]) fun i h1 h2 => by
    simp at h1 h2
    have := hl i h1
    rw [row_of h1, row_of h2] at this
    simpa using this
  unfold total
  rw [e]
theorem markM_total (D : List (List Int)) (k : Int) : total (markM D k) = total D :=
  total_le_of (mixM_len _ _ _) fun i hi => row_mixM_len (by rw [← mixM_len D k D.length]; exact hi)
end Go.Proofs.YtnalcgcdohlfiaaGreatDoor
namespace Go.Proofs.YtnalcgcdohlfiaaGreatDoor
open Go.RowKit

/-- what a call that began in the world w0 has collected so far: the slice v of the rows D, each a leaf of its own -/
def AccM (w0 W : World) (v : Value) (D : List (List Int)) (V : Nat → Value) : Prop :=
  Acc w0 W 47 v ((List.range D.length).map V) ∧ (∀ i, i < D.length → Leaf W (V i) (row D i)) ∧ Dis D.length V ∧ (∀ i, i < D.length → ∀ g ∈ lb (V i), w0.heap.size ≤ g)
theorem AccM.x {w0 W : World} {v : Value} {D : List (List Int)} {V : Nat → Value} (h : AccM w0 W v D V) : Ext w0 W := h.1.x
theorem AccM.on {w0 W W' : World} {v : Value} {D : List (List Int)} {V : Nat → Value} (h : AccM w0 W v D V) (k : Ext W W') : AccM w0 W' v D V :=
  ⟨h.1.on k, fun i hi => (h.2.1 i hi).ext k, h.2.2.1, h.2.2.2⟩
theorem AccM.empty {w0 w : World} (h : Ext w0 w) (V : Nat → Value) : AccM w0 (w.alloc (.cells #[] 47)) (.slice (some ⟨w.heap.size, 0, none⟩) 0 0) [] V :=
  ⟨Acc.empty _ h, fun i hi => absurd hi (by simp), fun i j hi => absurd hi (by simp), fun i hi => absurd hi (by simp)⟩
theorem AccM.nil {w0 w : World} (h : Ext w0 w) (V : Nat → Value) : AccM w0 w (.slice none 0 0) [] V :=
  ⟨Acc.nil _ h, fun i hi => absurd hi (by simp), fun i j hi => absurd hi (by simp), fun i hi => absurd hi (by simp)⟩
theorem AccM.done {w0 W : World} {v : Value} {D : List (List Int)} {V : Nat → Value} (h : AccM w0 W v D V) : FreshM w0 D (.returned v) W := by
  obtain ⟨⟨hx, hl, ho⟩, h2, h3, h4⟩ := h
  rcases ho with ⟨rfl, h0⟩ | ⟨g, cap, cur, rfl, hb, hg, hc, hm, hs, ht⟩
  · have : D.length = 0 := by simpa using h0
    have : D = [] := List.eq_nil_of_length_eq_zero this
    subst this
    exact ⟨none, 0, V, rfl, ⟨Nat.le_refl _, Nat.zero_le _, 0, 0, fun h => absurd h (by simp), fun i hi => absurd hi (by simp)⟩, h3, h4, hx⟩
  · simp only [List.length_map, List.length_range, Nat.mul_one] at hc ht
    refine ⟨some ⟨g, 0, none⟩, cap, V, by simp, ⟨hc, hm, g, 0, fun _ => ⟨rfl, cur, (0, 0), hg⟩, fun i hi => ⟨?_, h2 i hi⟩⟩, h3, h4, hx⟩
    have e : (cur.toList.take D.length)[i]? = ((List.range D.length).map V)[i]? := by rw [ht]
    rw [List.getElem?_take, if_pos hi] at e
    rw [Nat.zero_add, cell_cells hg, ← Array.getElem?_toList, e]
    simp [hi]
theorem row_app {D : List (List Int)} {r : List Int} {i : Nat} : row (D ++ [r]) i = if i = D.length then r else row D i := by
  unfold row
  by_cases h : i < D.length
  · rw [if_neg (by omega)]; simp [List.getD, List.getElem?_append_left h]
  · by_cases e : i = D.length
    · subst e; simp
    · rw [if_neg e]
      have h1 : (D ++ [r])[i]? = none := List.getElem?_eq_none (by simp; omega)
      have h2 : D[i]? = none := List.getElem?_eq_none (by omega)
      simp [List.getD, h1, h2]

/-- ONE ROW MORE: 'out = append(out, r)', r a leaf of its own -/
theorem wp_appM {P : Program} {ops : Array Oper} {rest : List Oper} {o : Oper} {a : Act} {Q : Exit → Act → World → Prop} {w0 W : World} {T E : TypeId} (hE : E = 47)
    (ht : P.underlying T = some (.slice E)) (hinfo : (P.info? E).map (fun i => (i.zero, i.size, i.bytes)) = some (some (.slice none 0 0), 1, 24))
    (hgd : o.guard = none) (s x : Operand) (ho : o.op = .call { callee := .builtin .append, args := #[s, x], argTypes := #[T, T] })
    (v u : Value) (D : List (List Int)) (r : List Int) (V : Nat → Value) (hs : a.eval s = v) (hx : a.eval x = .slice (some ⟨W.heap.size, 0, none⟩) 1 1) (hu : u.oneCell' = true) (hX : AccM w0 W v D V)
    (hr : Leaf W u r) (hfr : ∀ g ∈ lb u, w0.heap.size ≤ g ∧ ∀ i, i < D.length → g ∉ lb (V i)) (hl : D.length ≤ 10000000)
    (h : ∀ v' w', AccM w0 w' v' (D ++ [r]) (fun i => if i = D.length then u else V i) → wpList P ops Q rest (a.put o.dst v') w') : wpList P ops Q (o :: rest) a (W.alloc (.cells #[u] E)) := by
  subst hE
  obtain ⟨hA, h2, h3, h4⟩ := hX
  refine wp_app ht hinfo rfl (by decide) hgd s x ho v u _ hs hx hu hA (by simpa using hl) fun v' w' ha hb _ => h v' w' ⟨?_, fun i hi => ?_, fun i j hi hj hij g hg hg' => ?_, fun i hi g hg => ?_⟩
  · have e : (List.range (D ++ [r]).length).map (fun i => if i = D.length then u else V i) = (List.range D.length).map V ++ [u] := by
      rw [List.length_append, List.length_singleton, List.range_succ, List.map_append]
      congr 1
      · refine List.map_congr_left fun i hi => ?_
        have := List.mem_range.1 hi
        rw [if_neg (by omega)]
      · simp
    rw [e]; exact ha
  · simp only [List.length_append, List.length_singleton] at hi
    rw [row_app]
    by_cases e : i = D.length
    · simp only [if_pos e]; exact hb.leaf hA.2 (by decide) hr
    · simp only [if_neg e]; exact hb.leaf hA.2 (by decide) (h2 i (by omega))
  · simp only [List.length_append, List.length_singleton] at hi hj
    by_cases e : i = D.length
    · simp only [if_pos e] at hg
      by_cases e2 : j = D.length
      · omega
      · simp only [if_neg e2] at hg'
        exact (hfr g hg).2 j (by omega) hg'
    · simp only [if_neg e] at hg
      by_cases e2 : j = D.length
      · simp only [if_pos e2] at hg'
        exact (hfr g hg').2 i (by omega) hg
      · simp only [if_neg e2] at hg'
        exact h3 i j (by omega) (by omega) hij g hg hg'
  · simp only [List.length_append, List.length_singleton] at hi
    by_cases e : i = D.length
    · simp only [if_pos e] at hg; exact (hfr g hg).1
    · simp only [if_neg e] at hg; exact h4 i (by omega) g hg

/-- a row written out in a new block -/
theorem leaf_new {W : World} {cs : Array Value} {xs : List Int} (hc : ∀ j, j < xs.length → cs[j]? = some (.int .i64 (ix xs j))) (hn : xs.length ≤ 1000) : Leaf (W.alloc (.cells cs 3)) (.slice (some ⟨W.heap.size, 0, none⟩) xs.length xs.length) xs :=
  ⟨_, _, rfl, Nat.le_refl _, by unfold maxLen; omega, fun _ => ⟨W.heap.size, cs, rfl, heap_alloc_new W _, hc⟩⟩
theorem leaf_two (W : World) (x y : Int) : Leaf (W.alloc (.cells #[.int .i64 x, .int .i64 y] 3)) (.slice (some ⟨W.heap.size, 0, none⟩) 2 2) [x, y] :=
  leaf_new (xs := [x, y]) (fun j hj => by
    match j, hj with
    | 0, _ => rfl
    | 1, _ => rfl) (by show 2 ≤ 1000; decide)
end Go.Proofs.YtnalcgcdohlfiaaGreatDoor
namespace Go.Proofs.YtnalcgcdohlfiaaGreatDoor
open Go.RowKit
theorem Ext.drew' {a w : World} (h : Ext a w) : Ext a w.drew := h.drewN' 1
/-- append as a step of a region that draws -/
theorem step_ex {P : Program} {ops : Array Oper} {o : Oper} {a : Act} {w : World} {K : Act → World → Prop} {Q : Exit → Act → World → Prop} {E : Prop} {T : TypeId} {R : Value → World → Prop}
    (hg : o.guard = none) (s x : Operand) (ho : o.op = .call { callee := .builtin .append, args := #[s, x], argTypes := #[T, T] })
    (v u : Value) (hs : a.eval s = v) (hx : a.eval x = u) (h : ∃ v' w', (Builtin.append_ #[T, T] o.type #[v, u]).run P w = .ok v' w' ∧ R v' w')
    (hk : ∀ v' w', R v' w' → K (a.put o.dst v') w') : if Region.wanted o (yielded ops a.tmps) = true then Oper.wp P o a w K Q else E := by
  have hw : Region.wanted o (yielded ops a.tmps) = true := by simp [Region.wanted, hg]
  rw [if_pos hw]
  obtain ⟨v', w', hr, hR⟩ := h
  unfold Oper.wp execOp
  simp only [ho, resolve, invoke, builtin, Sem.run_bind, Sem.run_pure, Result.andThen_ok, List.map_toArray, List.map_cons, List.map_nil, hs, hx, hr]
  exact hk _ _ hR
/-- append in a region that does not draw -/
theorem wpList_ex {P : Program} {ops : Array Oper} {rest : List Oper} {o : Oper} {a : Act} {w : World} {Q : Exit → Act → World → Prop} {T : TypeId} {R : Value → World → Prop}
    (hg : o.guard = none) (s x : Operand) (ho : o.op = .call { callee := .builtin .append, args := #[s, x], argTypes := #[T, T] })
    (v u : Value) (hs : a.eval s = v) (hx : a.eval x = u) (h : ∃ v' w', (Builtin.append_ #[T, T] o.type #[v, u]).run P w = .ok v' w' ∧ R v' w')
    (hk : ∀ v' w', R v' w' → wpList P ops Q rest (a.put o.dst v') w') : wpList P ops Q (o :: rest) a w := by
  obtain ⟨v', w', hr, hR⟩ := h
  refine wpList_plain hg fun K hK => ?_
  unfold Oper.wp execOp
  simp only [ho, resolve, invoke, builtin, Sem.run_bind, Sem.run_pure, Result.andThen_ok, List.map_toArray, List.map_cons, List.map_nil, hs, hx, hr]
  exact hK _ _ (hk _ _ hR)
theorem accNew {w0 W : World} {E : TypeId} {N : Nat} (hx : Ext w0 W) (hN : W.heap[N]? = some (.cells #[] E (0, 0))) (hge : w0.heap.size ≤ N) : Acc w0 W E (.slice (some ⟨N, 0, none⟩) 0 0) [] :=
  ⟨hx, rfl, .inr ⟨N, 0, #[], rfl, hge, hN, Nat.le_refl _, Nat.zero_le _, rfl, rfl⟩⟩
theorem app_run {P : Program} {w0 W : World} {T E ty : TypeId} {z : Value} {bytes : Nat}
    (ht : P.underlying T = some (.slice E)) (hinfo : (P.info? E).map (fun i => (i.zero, i.size, i.bytes)) = some (some z, 1, bytes)) (hz1 : z.cells.size = 1) (hby : bytes ≤ 64)
    (v : Value) (xs : List Value) (ad : Addr) (m c : Nat) (news : List Value) (hl : news.length = m) (hc : ∀ j y, news[j]? = some y → W.cell? (ad.add j) = some y) (h1 : ∀ u ∈ news, u.oneCell' = true)
    (hX : Acc w0 W E v xs) (hlen : xs.length + m ≤ 10000000) :
    ∃ v' w', (Builtin.append_ #[T, T] ty #[v, .slice (some ad) m c]).run P W = .ok v' w' ∧ (Acc w0 w' E v' (xs ++ news) ∧ Beside v W w' ∧ Stays v v' W.heap.size) := by
  obtain ⟨i0, hi, hz, hsz, hb⟩ := info_parts hinfo
  obtain ⟨hx0, hown⟩ := hX
  have hbytes : (xs.length + m) * bytes ≤ 140737488355328 := by
    have : (xs.length + m) * bytes ≤ 10000000 * 64 := Nat.mul_le_mul hlen hby
    omega
  obtain ⟨v', w', hr, h2, h3, _, h5⟩ := run_append_own_at (P := P) (w := W) w0.heap.size T ty E i0 z 1 bytes ht hi hz hsz hb hz1 (by decide) v xs.length xs hown ad m c news (by omega) hc h1
    (by unfold maxLen; omega) hbytes hx0.size
  have hrow : ∀ k, v.ownBlock = some k → w0.heap.size ≤ k := fun k hk => (hown.lt k hk).1
  refine ⟨v', w', hr, ⟨Below.grown hx0 h3 hx0.size hrow, by rw [List.length_append, hl]; exact h2⟩, ⟨h3.size, fun g hg hne => h3.block g hg hne⟩, h5⟩
theorem one_news {W : World} {ad : Addr} {u : Value} (h : W.cell? ad = some u) (h0 : ad.spot = none) : ∀ j y, [u][j]? = some y → W.cell? (ad.add j) = some y := fun j y hj => by
  cases j with
  | zero =>
    simp at hj
    subst hj
    obtain ⟨b, o, sp⟩ := ad
    obtain rfl : sp = none := h0
    rw [Addr.add_lit, Nat.add_zero]
    exact h
  | succ j => simp at hj
theorem ints_news {W : World} {b o n : Nat} {xs : List Int} (hn : xs.length = n) (h : ∀ j, j < n → W.cell? ⟨b, o + j, none⟩ = some (.int .i64 (ix xs j))) : ∀ j y, (xs.map (Value.int .i64))[j]? = some y → W.cell? ((⟨b, o, none⟩ : Addr).add j) = some y := fun j y hj => by
  rw [List.getElem?_map] at hj
  by_cases q : j < xs.length
  · rw [List.getElem?_eq_getElem q] at hj
    simp only [Option.map_some, Option.some.injEq] at hj
    subst hj
    rw [Addr.add_lit, h j (by omega), ix_of q]
  · rw [List.getElem?_eq_none (by omega)] at hj
    cases hj
theorem map_one (xs : List Int) : ∀ u ∈ xs.map (Value.int .i64), u.oneCell' = true := fun u hu => by
  obtain ⟨x, _, rfl⟩ := List.mem_map.1 hu
  rfl
theorem cell_new0 (W : World) (u : Value) (T : TypeId) : (W.alloc (.cells #[u] T)).cell? ⟨W.heap.size, 0, none⟩ = some u := by
  rw [cell_cells (heap_alloc_new W _)]; rfl
theorem cell_beside {v u : Value} {W W' : World} {M : Nat} {T : TypeId} (hB : Beside v W W') (hM : W.heap[M]? = some (.cells #[u] T (0, 0))) (hne : some M ≠ v.ownBlock) : W'.cell? ⟨M, 0, none⟩ = some u := by
  rw [cell_cells ((hB.2 M (heap_lt hM) hne).trans hM)]; rfl
/-- rows under way: how many -/
def RowsM (w0 W : World) (v : Value) (k : Nat) : Prop := ∃ D V, D.length = k ∧ AccM w0 W v D V
theorem RowsM.x {w0 W : World} {v : Value} {k : Nat} (h : RowsM w0 W v k) : Ext w0 W := by
  obtain ⟨D, V, _, h1⟩ := h
  exact h1.x
theorem RowsM.on {w0 W W' : World} {v : Value} {k : Nat} (h : RowsM w0 W v k) (x : Ext W W') : RowsM w0 W' v k := by
  obtain ⟨D, V, h0, h1⟩ := h
  exact ⟨D, V, h0, h1.on x⟩
theorem RowsM.empty {w0 w : World} (h : Ext w0 w) : RowsM w0 (w.alloc (.cells #[] 47)) (.slice (some ⟨w.heap.size, 0, none⟩) 0 0) 0 :=
  ⟨[], fun _ => .slice none 0 0, rfl, AccM.empty h _⟩
theorem leaf_one {W : World} {u : Value} {r : List Int} (h : Leaf W u r) : u.oneCell' = true := by
  obtain ⟨A, c, rfl, _⟩ := h
  rfl
/-- one row more -/
theorem appM_run {P : Program} {w0 W : World} {T E ty : TypeId} (hE : E = 47)
    (ht : P.underlying T = some (.slice E)) (hinfo : (P.info? E).map (fun i => (i.zero, i.size, i.bytes)) = some (some (.slice none 0 0), 1, 24))
    (v u : Value) (D : List (List Int)) (r : List Int) (V : Nat → Value) (ad : Addr) (c : Nat) (had : ad.spot = none) (hc : W.cell? ad = some u) (hX : AccM w0 W v D V)
    (hr : Leaf W u r) (hfr : ∀ g ∈ lb u, w0.heap.size ≤ g ∧ ∀ i, i < D.length → g ∉ lb (V i)) (hl : D.length ≤ 1000000) :
    ∃ v' w', (Builtin.append_ #[T, T] ty #[v, .slice (some ad) 1 c]).run P W = .ok v' w' ∧ AccM w0 w' v' (D ++ [r]) (fun i => if i = D.length then u else V i) := by
  subst hE
  obtain ⟨hA, h2, h3, h4⟩ := hX
  obtain ⟨v', w', hrun, ha, hb, _⟩ := app_run (ty := ty) ht hinfo rfl (by decide) v _ ad 1 c [u] rfl (one_news hc had) (by simpa using leaf_one hr) hA (by simp; omega)
  refine ⟨v', w', hrun, ?_, fun i hi => ?_, fun i j hi hj hij g hg hg' => ?_, fun i hi g hg => ?_⟩
  · have e : (List.range (D ++ [r]).length).map (fun i => if i = D.length then u else V i) = (List.range D.length).map V ++ [u] := by
      rw [List.length_append, List.length_singleton, List.range_succ, List.map_append]
      congr 1
      · refine List.map_congr_left fun i hi => ?_
        have := List.mem_range.1 hi
        rw [if_neg (by omega)]
      · simp
    rw [e]; exact ha
  · simp only [List.length_append, List.length_singleton] at hi
    rw [row_app]
    by_cases e : i = D.length
    · simp only [if_pos e]; exact hb.leaf hA.2 (by decide) hr
    · simp only [if_neg e]; exact hb.leaf hA.2 (by decide) (h2 i (by omega))
  · simp only [List.length_append, List.length_singleton] at hi hj
    by_cases e : i = D.length
    · simp only [if_pos e] at hg
      by_cases e2 : j = D.length
      · omega
      · simp only [if_neg e2] at hg'
        exact (hfr g hg).2 j (by omega) hg'
    · simp only [if_neg e] at hg
      by_cases e2 : j = D.length
      · simp only [if_pos e2] at hg'
        exact (hfr g hg').2 i (by omega) hg
      · simp only [if_neg e2] at hg'
        exact h3 i j (by omega) (by omega) hij g hg hg'
  · simp only [List.length_append, List.length_singleton] at hi
    by_cases e : i = D.length
    · simp only [if_pos e] at hg; exact (hfr g hg).1
    · simp only [if_neg e] at hg; exact h4 i (by omega) g hg
theorem rows_run {P : Program} {w0 wr W W' : World} {T E ty : TypeId} (hE : E = 47)
    (ht : P.underlying T = some (.slice E)) (hinfo : (P.info? E).map (fun i => (i.zero, i.size, i.bytes)) = some (some (.slice none 0 0), 1, 24))
    (v u : Value) {k : Nat} (xs : List Int) (ad : Addr) (c : Nat) (had : ad.spot = none) (h : RowsM w0 wr v k) (hr : Acc wr W 3 u (xs.map (Value.int .i64))) (hW : Ext W W') (hc : W'.cell? ad = some u) (hl : k ≤ 1000) :
    ∃ v' w', (Builtin.append_ #[T, T] ty #[v, .slice (some ad) 1 c]).run P W' = .ok v' w' ∧ RowsM w0 w' v' (k + 1) := by
  obtain ⟨D, V, rfl, h1⟩ := h
  have hlt : ∀ i, i < D.length → ∀ g ∈ lb (V i), g < wr.heap.size := fun i hi g hg => (h1.2.1 i hi).lt hg
  have hx0 := h1.x.size
  obtain ⟨hleaf, hge⟩ := Leaf.of_own hr.2
  obtain ⟨v', w', hrun, ha⟩ := appM_run (ty := ty) hE ht hinfo v u D xs V ad c had hc (h1.on (hr.1.trans hW)) (hleaf.ext hW) (fun g hg => ⟨by have := hge g hg; omega, fun i hi hg' => by have := hlt i hi g hg'; have := hge g hg; omega⟩) (by omega)
  exact ⟨v', w', hrun, _, _, by simp, ha⟩
theorem blk_one (w : World) (A : Obj) : (w.alloc A).drew.heap[w.heap.size]? = some A := heap_alloc_new w A
theorem blk_second (w : World) (A B : Obj) : ((w.alloc A).alloc B).drew.heap[w.heap.size + 1]? = some B := by
  have h1 := heap_alloc_new (w.alloc A) B
  have e : (w.alloc A).heap.size = w.heap.size + 1 := by simp
  rw [e] at h1
  exact h1
theorem blk_first (w : World) (A B : Obj) : ((w.alloc A).alloc B).drew.heap[w.heap.size]? = some A := by
  rw [← blk_one w A]
  exact Below.heap_alloc (w.alloc A) B _ (by simp)
end Go.Proofs.YtnalcgcdohlfiaaGreatDoor
namespace Go.Proofs.YtnalcgcdohlfiaaGreatDoor
open Go.RowKit Go.ChangeShapes Go.WideShapes Go.ChangeAt Go.Deep

section
variable {H : Type} {enc : TypeId × Value → H} {P : Program}

theorem trodAll_stays (hl : laidOutB P = true) {W W' : World} {sp : Nat → Bool} : ∀ (ts : List TypeId) (vs : List Value) (ds : List (DataW H)) (ps : List MemPlace),
    (∀ t ∈ ts, P.readableRec t = true ∧ t < P.types.size) → DataW.TrodAll enc P W 0 (fun _ => true) true ts vs ds ps → (∀ p ∈ ps, W.sameAt W' p) → (∀ p ∈ ps, sp p.block = true) →
    DataW.TrodAll enc P W' 0 sp true ts vs ds ps
  | [], vs, ds, ps, _, h, _, _ => by
    obtain ⟨rfl, rfl, rfl⟩ := trodAll_nil h
    exact trodAll_mk0
  | t :: ts, vs, ds, ps, hr, h, hsame, hs => by
    obtain ⟨v, vs', d, ds', p, q, rfl, rfl, rfl, h1, h2⟩ := trodAll_cons h
    obtain ⟨r1, r2⟩ := hr t (List.mem_cons_self)
    exact trodAll_cons_mk (WideElems.Trod_stays hl r1 r2 h1 (fun p hp => hsame p (List.mem_append_left _ hp)) (fun p hp => hs p (List.mem_append_left _ hp)))
      (trodAll_stays hl ts vs' ds' q (fun t ht => hr t (List.mem_cons_of_mem _ ht)) h2 (fun p hp => hsame p (List.mem_append_right _ hp)) (fun p hp => hs p (List.mem_append_right _ hp)))

theorem post_of_below {f : Func} {s : ChangeSpec} {apart fresh handsOn again : Bool} {W W' : World} {args : Array Value} {v : Value} {ds gs : List (DataW H)} {before pa pv : List MemPlace}
    (hW : DataW.Whole enc P f.params.toList s.vars apart W args.toList ds gs before)
    (hres : ∀ (b : Nat) (sp : Nat → Bool) (hd : Bool), DataW.TrodAll enc P W' b sp hd f.resultTypes.toList (v.resultList f.resultTypes.size) (s.fn H (ds ++ gs)).results [])
    (hargs : ∀ sp : Nat → Bool, (∀ p ∈ before, sp p.block = true) → DataW.TrodAll enc P W' 0 sp true f.params.toList args.toList (s.fn H (ds ++ gs)).args pa)
    (hvars : ∀ sp : Nat → Bool, (∀ p ∈ before, sp p.block = true) → DataW.TrodVars enc P W' sp s.vars (s.fn H (ds ++ gs)).vars pv)
    (hps : before = pa ++ pv) (hb : Below W.heap.size W W')
    (hok : ∀ (j : Nat) (t : TypeId) (r : Value), f.resultTypes[j]? = some t → (v.resultList f.resultTypes.size)[j]? = some r → Value.okWide P W' .any 0 t r) :
    s.post enc P f apart fresh handsOn again W args v W' := by
  have hlt : ∀ p ∈ before, p.block < W.heap.size := fun p hp => hW.lt p hp
  have hold : ∀ p ∈ before, (fun b => decide (b < W.heap.size)) p.block = true := fun p hp => by simpa using hlt p hp
  refine ⟨ds, gs, before, [], pa, pv, hW, hres _ _ _, hargs _ hold, hvars _ hold, World.keptBut_mono (fun p hp => ⟨hp, ?_⟩) (hb.frame (· ∈ before)), fun _ => ?_⟩
  · rw [hps, List.mem_append] at hp
    exact Or.inr hp
  · obtain ⟨_, _, _, _, _, hz, hn⟩ := hW
    refine ⟨hok, _, _, ([] ++ pa) ++ pv, ⟨[] ++ pa, pv, trodAll_append (hargs _ (fun _ _ => rfl)) (hres _ _ _), hvars _ (fun _ _ => rfl), rfl, ?_, ?_⟩, ?_⟩
    · intro b off hp
      have hin : MemPlace.cell b off ∈ before := by rw [hps]; simpa using hp
      rw [hb.frozen (hlt _ hin)]
      exact hz b off hin
    · intro ha
      have := hn ha
      rw [hps] at this
      simpa using this
    · intro p hp _
      rw [hps]
      simpa using hp

/-- THE LAST STEP OF EACH LAW: it has returned true, and nothing that was there has turned. -/
theorem post_law {f : Func} {s : ChangeSpec} {apart handsOn again : Bool} {W W' : World} {args : Array Value} {ds : List (DataW H)} {before : List MemPlace} {tb : TypeId}
    (hl : laidOutB P = true) (hp : ∀ t ∈ f.params.toList, P.readableRec t = true ∧ t < P.types.size) (hv : s.vars = []) (hrt : f.resultTypes = #[tb]) (htb : P.underlying tb = some .bool)
    (hW : DataW.Whole enc P f.params.toList s.vars apart W args.toList ds [] before) (hs : s.fn H (ds ++ []) = { results := [.lit (.bool true)], args := ds }) (hx : Ext W W') :
    s.post enc P f apart true handsOn again W args (.bool true) W' := by
  have hW' := hW
  obtain ⟨p, q, hA, hV, rfl, _, _⟩ := hW'
  rw [hv] at hV
  obtain ⟨_, rfl⟩ := trodVars_none hV
  rw [List.append_nil] at hW
  have hlt : ∀ x ∈ p, x.block < W.heap.size := fun x hx => hW.lt x hx
  have hb : ∀ (b : Nat) (sp : Nat → Bool) (hd : Bool), DataW.Trod enc P W' b sp hd tb (.bool true) (.lit (.bool true)) [] := fun b sp hd => ⟨1, by simp [DataW.trod, Value.cells, htb]⟩
  refine post_of_below (pa := p) (pv := []) hW ?_ ?_ ?_ (by simp) hx ?_
  · intro b sp hd
    rw [hs, hrt]
    exact trodAll_mk1 (hb b sp hd)
  · intro sp hsp
    rw [hs]
    exact trodAll_stays hl _ _ _ _ hp hA (fun x hx' => Below.same hx (hlt x hx')) (fun x hx' => hsp x hx')
  · intro sp hsp
    rw [hs, hv]
    rfl
  · intro j t r ht hr
    rw [hrt] at ht hr
    have : j = 0 := by
      rcases Nat.eq_zero_or_pos j with h | h
      · exact h
      · have h0 : #[tb][j]? = none := Array.getElem?_eq_none (by simp; omega)
        rw [h0] at ht
        cases ht
    subst this
    simp at ht
    subst ht
    simp [Value.resultList] at hr
    subst hr
    simp [Value.okWide, htb, Cell.okWide, Cell.ok]
end

set_option maxRecDepth 100000 in
theorem laidOut : laidOutB Tryz.prog = true := by kernel_rfl
theorem cellsR : Tryz.prog.cellsOf 47 = 1 := by kernel_rfl
theorem cellsI : Tryz.prog.cellsOf 3 = 1 := by kernel_rfl
theorem own : ownKnob Tryz.prog.godebug = none := by kernel_rfl

section
variable {H : Type} {enc : TypeId × Value → H} {W : World} {base : Nat}

theorem ints_of_cells {w : World} {A : Option Addr} {L C : Nat} {zs : List Int} (h1 : L ≤ C) (h2 : C ≤ maxLen) (h3 : zs.length = C)
    (h4 : A = none → C = 0) (h5 : ∀ a', A = some a' → ∀ c, c < C → w.cell? (a'.add c) = some (.int .i64 (zs.getD c 0))) : (zs.take L).length = L ∧ Ints w A C (zs.take L) := by
  have hl : (zs.take L).length = L := by rw [List.length_take]; omega
  refine ⟨hl, by omega, h2, ?_⟩
  cases A with
  | none => have := h4 rfl; exact ⟨0, 0, fun h => absurd h (by omega), fun j hj => absurd hj (by omega)⟩
  | some a =>
    by_cases hL : L = 0
    · exact ⟨0, 0, fun h => absurd h (by omega), fun j hj => absurd hj (by omega)⟩
    · obtain ⟨b, o, s⟩ := a
      have h0 := h5 _ rfl 0 (by omega)
      have hs : s = none := by simpa [Addr.add] using World.cell?_spot h0
      subst hs
      refine ⟨b, o, fun _ => rfl, fun j hj => ?_⟩
      rw [hl] at hj
      have hc := h5 _ rfl j (by omega)
      rw [add_plain] at hc
      rw [hc]
      congr 2
      rw [ix_of (by omega)]
      simp [List.getD, show j < zs.length by omega]

set_option maxRecDepth 100000 in
/-- AN ARGUMENT that is a slice of numbers -/
theorem read_ints {r : Reach} {b0 : Nat} {v : Value} {d : DataW H} {ps : List MemPlace} (hval : Value.okWide Tryz.prog W r b0 47 v) (h : DataW.Trod enc Tryz.prog W base (fun _ => true) true 47 v d ps) :
    ∃ A c xs, v = .slice A xs.length c ∧ Ints W A c xs := by
  obtain ⟨a0, len, cap, rfl⟩ := okWide_slice Tryz.underlying47 hval
  obtain ⟨fuel, hf⟩ := h
  rcases open_ints Tryz.underlying47 Tryz.underlying3 cellsI hf with ⟨hcs, _⟩ | ⟨a, len', cap', zs, hcs, hb, hl, hm, hz, hy, hcell, hwz⟩
  · simp [Value.cells] at hcs
    obtain ⟨rfl, rfl, rfl⟩ := hcs
    exact ⟨none, 0, [], rfl, Ints.nil _ _ _ (Nat.zero_le _)⟩
  · simp [Value.cells] at hcs
    obtain ⟨rfl, rfl, rfl⟩ := hcs
    simp only [if_true] at hz
    obtain ⟨e, hI⟩ := ints_of_cells (w := W) (A := some a) (L := len) (C := cap) (zs := zs) hl hm hz (fun h => by cases h) (fun a' ha c hc => by cases ha; exact hcell c (by rw [hz]; exact hc))
    exact ⟨some a, cap, zs.take len, by rw [e], hI⟩

set_option maxRecDepth 100000 in
/-- AN ARGUMENT that is a slice of rows -/
theorem read_mat {r : Reach} {b0 : Nat} {v : Value} {d : DataW H} {ps : List MemPlace} (hval : Value.okWide Tryz.prog W r b0 23 v) (h : DataW.Trod enc Tryz.prog W base (fun _ => true) true 23 v d ps) :
    ∃ A c D, v = .slice A D.length c ∧ Mat W A c D := by
  obtain ⟨a0, len, cap, rfl⟩ := okWide_slice Tryz.underlying23 hval
  obtain ⟨fuel, hf⟩ := h
  rcases open_int_rows Tryz.underlying23 Tryz.underlying47 Tryz.underlying3 cellsR cellsI hf with ⟨hcs, _⟩ | ⟨a, len', cap', A, L, C, Z, hcs, _, hl, hm, _, hrows⟩
  · simp [Value.cells] at hcs
    obtain ⟨rfl, rfl, rfl⟩ := hcs
    exact ⟨none, 0, [], rfl, Mat.nil _ _ _ (Nat.zero_le _)⟩
  · simp [Value.cells] at hcs
    obtain ⟨rfl, rfl, rfl⟩ := hcs
    have hD : ((List.range len).map fun i => (Z i).take (L i)).length = len := by simp
    refine ⟨some a, cap, (List.range len).map fun i => (Z i).take (L i), by rw [hD], by rw [hD]; exact hl, hm, ?_⟩
    by_cases h0 : len = 0
    · exact ⟨0, 0, fun h => absurd h (by rw [hD]; omega), fun j hj => absurd hj (by rw [hD]; omega)⟩
    · obtain ⟨b, o, s⟩ := a
      have hs : s = none := by simpa [Addr.add] using World.cell?_spot (hrows 0 (by omega)).1
      subst hs
      refine ⟨b, o, fun _ => rfl, fun i hi => ?_⟩
      rw [hD] at hi
      obtain ⟨k1, k2, k3, k4, k5, k6, k7⟩ := hrows i (by omega)
      have hrow : row ((List.range len).map fun i => (Z i).take (L i)) i = (Z i).take (L i) := by
        rw [row_of (by rw [hD]; exact hi)]; simp
      obtain ⟨e, hI⟩ := ints_of_cells (w := W) k2 k3 k4 k6 (fun a' ha c hc => (k7 a' ha).2 c hc)
      rw [add_plain] at k1
      rw [hrow]
      exact ⟨A i, C i, by rw [k1, e], hI⟩
end
end Go.Proofs.YtnalcgcdohlfiaaGreatDoor
namespace Go.Proofs.YtnalcgcdohlfiaaGreatDoor
open Go.RowKit
theorem three_blocks {w w1 : World} {o1 o2 o3 : Obj} (h : Ext (((w.alloc o1).alloc o2).alloc o3) w1) : w1.heap[w.heap.size]? = some o1 ∧ w1.heap[w.heap.size + 1]? = some o2 ∧ w1.heap[w.heap.size + 1 + 1]? = some o3 := by
  obtain ⟨W1, h1⟩ : ∃ W1, w.alloc o1 = W1 := ⟨_, rfl⟩
  have s1 : W1.heap.size = w.heap.size + 1 := by rw [← h1]; simp
  have a1 : W1.heap[w.heap.size]? = some o1 := by rw [← h1]; exact heap_alloc_new w _
  rw [h1] at h
  obtain ⟨W2, h2⟩ : ∃ W2, W1.alloc o2 = W2 := ⟨_, rfl⟩
  have s2 : W2.heap.size = w.heap.size + 1 + 1 := by rw [← h2]; simp [s1]
  have a2 : W2.heap[w.heap.size + 1]? = some o2 := by rw [← h2, ← s1]; exact heap_alloc_new W1 _
  have b1 : W2.heap[w.heap.size]? = some o1 := by rw [← h2, Below.heap_alloc W1 _ _ (by omega)]; exact a1
  rw [h2] at h
  have s3 : (W2.alloc o3).heap.size = w.heap.size + 1 + 1 + 1 := by simp [s2]
  refine ⟨?_, ?_, ?_⟩
  · rw [h.block (by omega), Below.heap_alloc W2 _ _ (by omega)]; exact b1
  · rw [h.block (by omega), Below.heap_alloc W2 _ _ (by omega)]; exact a2
  · rw [h.block (by omega), ← s2]; exact heap_alloc_new W2 _
theorem set_0 {w : World} {g : Nat} {a b u : Value} {T : TypeId} (hb : w.heap[g]? = some (.cells #[a, b] T (0, 0))) : (w.setCell ⟨g, 0, none⟩ u).heap[g]? = some (.cells #[u, b] T (0, 0)) := by
  simp [World.setCell, Array.getElem?_modify, hb]
theorem set_1 {w : World} {g : Nat} {a b u : Value} {T : TypeId} (hb : w.heap[g]? = some (.cells #[a, b] T (0, 0))) : (w.setCell ⟨g, 1, none⟩ u).heap[g]? = some (.cells #[a, u] T (0, 0)) := by
  simp [World.setCell, Array.getElem?_modify, hb]
theorem two_blocks {w w1 : World} {o1 o2 : Obj} (h : Ext ((w.alloc o1).alloc o2) w1) : w1.heap[w.heap.size]? = some o1 ∧ w1.heap[w.heap.size + 1]? = some o2 ∧ Ext w w1 ∧ w.heap.size + 2 ≤ w1.heap.size := by
  have s1 : (w.alloc o1).heap.size = w.heap.size + 1 := by simp
  have s2 : ((w.alloc o1).alloc o2).heap.size = w.heap.size + 2 := by simp
  refine ⟨?_, ?_, ((Ext.alloc w o1).trans (Ext.alloc _ _)).trans h, by have := h.size; omega⟩
  · rw [h.block (by omega), Below.heap_alloc (w.alloc o1) _ _ (by omega)]; exact heap_alloc_new w _
  · rw [h.block (by omega), ← s1]; exact heap_alloc_new (w.alloc o1) _
theorem three_more {w w1 : World} {o1 o2 o3 : Obj} (h : Ext (((w.alloc o1).alloc o2).alloc o3) w1) : w1.heap[w.heap.size]? = some o1 ∧ w1.heap[w.heap.size + 1]? = some o2 ∧ w1.heap[w.heap.size + 1 + 1]? = some o3 ∧ Ext w w1 ∧ w.heap.size + 3 ≤ w1.heap.size := by
  obtain ⟨a, b, c⟩ := three_blocks h
  exact ⟨a, b, c, ((((Ext.refl w).alloc' o1).alloc' o2).alloc' o3).trans h, by have := h.size; simp at this; omega⟩
theorem two_cells {W : World} {b : Nat} {x y : Value} {T : TypeId} (h : W.heap[b]? = some (.cells #[x, y] T (0, 0))) : W.cell? ⟨b, 0, none⟩ = some x ∧ W.cell? ⟨b, 1, none⟩ = some y :=
  ⟨by rw [cell_cells h]; rfl, by rw [cell_cells h]; rfl⟩
theorem set_far {w : World} {p : Addr} {u : Value} {g : Nat} {o : Obj} (h : w.heap[g]? = some o) (hne : g ≠ p.block) : (w.setCell p u).heap[g]? = some o := (Below.heap_setCell _ _ _ _ hne).trans h
/-- all blocks that were there stay, but for those of S -/
def ExtS (S : Nat → Prop) (w w' : World) : Prop := w'.os = w.os ∧ w'.tape = w.tape ∧ w'.output = w.output ∧ w.heap.size ≤ w'.heap.size ∧ ∀ k, k < w.heap.size → ¬ S k → w'.heap[k]? = w.heap[k]?
theorem ExtS.refl (S : Nat → Prop) (w : World) : ExtS S w w := ⟨rfl, rfl, rfl, Nat.le_refl _, fun _ _ _ => rfl⟩
theorem ExtS.of {S : Nat → Prop} {a b : World} (h : Ext a b) : ExtS S a b := ⟨Below.os h, Below.tape h, Below.output h, h.size, fun _ k1 _ => h.block k1⟩
theorem ExtS.only {S : Nat → Prop} {a b : World} (h : Only S a b) : ExtS S a b := ⟨h.1, h.2.1, h.2.2.1, by rw [h.2.2.2.1]; exact Nat.le_refl _, fun k _ => h.2.2.2.2 k⟩
theorem ExtS.trans {S : Nat → Prop} {a b c : World} (h : ExtS S a b) (k : ExtS S b c) : ExtS S a c :=
  ⟨k.1.trans h.1, k.2.1.trans h.2.1, k.2.2.1.trans h.2.2.1, Nat.le_trans h.2.2.2.1 k.2.2.2.1, fun q q1 q2 => (k.2.2.2.2 q (Nat.lt_of_lt_of_le q1 h.2.2.2.1) q2).trans (h.2.2.2.2 q q1 q2)⟩
theorem ExtS.mono {S T : Nat → Prop} {a b : World} (h : ExtS S a b) (k : ∀ g, S g → T g) : ExtS T a b := ⟨h.1, h.2.1, h.2.2.1, h.2.2.2.1, fun q q1 q2 => h.2.2.2.2 q q1 fun e => q2 (k q e)⟩
theorem ExtS.ext {S : Nat → Prop} {w0 a b : World} (h : Ext w0 a) (k : ExtS S a b) (hs : ∀ g, S g → w0.heap.size ≤ g) : Ext w0 b :=
  ⟨k.1.trans (Below.os h), k.2.1.trans (Below.tape h), k.2.2.1.trans (Below.output h), Nat.le_trans h.size k.2.2.2.1, fun i hi => (k.2.2.2.2 i (Nat.lt_of_lt_of_le hi h.size) fun hg => by have := hs i hg; omega).trans (Below.block h i hi)⟩
end Go.Proofs.YtnalcgcdohlfiaaGreatDoor
