/- What is proved: impl.hasPoint, slices.Max, impl.sumFrom, impl.SumFrom, spec.SumFrom return what is said. Conditions: those of each contract. -/
import Derived.Test.YtpkiodpocggfbaaWeights
namespace Go.Proofs.Ytpkiodpocggfbaa
open Go.RowKit

theorem b_dd {p q : Prop} [Decidable p] [Decidable q] (h : p ↔ q) : decide p = decide q := by rw [Bool.eq_iff_iff, decide_eq_true_iff, decide_eq_true_iff]; exact h
theorem b_td {q : Prop} [Decidable q] (h : q) : true = decide q := (decide_eq_true h).symm
theorem b_fd {q : Prop} [Decidable q] (h : ¬ q) : false = decide q := (decide_eq_false h).symm

/-- a space, and a point of it -/
def pointB (D : List (List Int)) (p : Int) : Bool := spB D && decide (0 ≤ p ∧ p < D.length)
theorem pointB_parts {D : List (List Int)} {p : Int} (h : pointB D p = true) : spB D = true ∧ ∃ k : Nat, p = k ∧ k < D.length := by
  unfold pointB at h
  simp only [Bool.and_eq_true, decide_eq_true_eq] at h
  exact ⟨h.1, p.toNat, by omega, by omega⟩

/-- the greatest of numbers -/
def maxI (xs : List Int) : Int := itR (fun k s => max s (ix xs k)) (xs.length - 1) 1 (ix xs 0)

set_option maxHeartbeats 1000000 in
theorem slicesMax_any (A : Option Addr) (c : Nat) (xs : List Int) (w : World) (h : Ints w A c xs) (h0 : 0 < xs.length) :
    Calls Try.prog 23 #[.slice A xs.length c] w fun e w' => e = .returned (.int .i64 (maxI xs)) ∧ ∃ m, w' = w.drewN m := by
  obtain ⟨h1, h2, b, o, hA, hc⟩ := h
  unfold maxLen at h2
  obtain rfl := hA h0
  have h0' : ¬ (xs.length : Int) < 1 := by omega
  have c0 := hc 0 h0
  simp only [Nat.add_zero] at c0
  go_enter Try.func23, Try.ntmps23
  go_wp2
  clear c0
  go_loopg [3, 4] (xs.length - 1) (fun g s3 s4 wr => ∃ (i m : Nat) (s : Int), i + g = xs.length ∧ 1 ≤ i ∧ s3 = .int .i64 s ∧ s4 = .int .i64 i ∧ wr = w.drewN m ∧ Hid (itR (fun k s => max s (ix xs k)) g i s = maxI xs))
  case atStart => exact ⟨1, 0, _, by omega, by omega, rfl, rfl, rfl, Lib.hid rfl⟩
  case round =>
    obtain ⟨i, m, s, hi, hi1, rfl, rfl, rfl, Hi⟩ := hrel
    by_cases hini : i < xs.length
    · obtain ⟨gi, rfl⟩ : ∃ g', gk = g' + 1 := ⟨gk - 1, by omega⟩
      have hini' : (i : Int) < (xs.length : Nat) := by omega
      have c1 := hc i hini
      clear hc
      by_cases hle : ix xs i ≤ s
      · have HE := Lib.hid (Int.max_eq_left hle)
        go_wp2
        go_roundg gi
        case measure => omega
        case rel => exact ⟨i + 1, _, _, by omega, by omega, rfl, by go_num, rfl, Lib.hid (by rw [← Hi.out, itR, HE.out])⟩
      · have HE := Lib.hid (Int.max_eq_right (show s ≤ ix xs i by omega))
        go_wp2
        go_roundg gi
        case measure => omega
        case rel => exact ⟨i + 1, _, _, by omega, by omega, rfl, by go_num, rfl, Lib.hid (by rw [← Hi.out, itR, HE.out])⟩
    · have hini' : ¬ (i : Int) < (xs.length : Nat) := by omega
      obtain rfl : gk = 0 := by omega
      clear hc
      go_wp2
      go_ret
      exact ⟨ret_int (by rw [← Hi.out]; rfl), _, rfl⟩

/-- the sum of the distances from a point, each times a weight -/
def sumP (D : List (List Int)) (ws : List Int) (p : Nat) : Int := itR (fun k s => s + ix ws k * at2 D p k) ws.length 0 0
def sumV (D : List (List Int)) (ws : List Int) (p : Int) : Int := if weightsB D ws = true ∧ pointB D p = true then sumP D ws p.toNat else -1
theorem wtB_all {ws : List Int} (h : wtB ws = true) : ∀ i, i < ws.length → 0 ≤ ix ws i ∧ ix ws i ≤ 9 := fun i hi => of_decide_eq_true ((allR_all _ _).1 h i hi)
theorem weightsB_parts {D : List (List Int)} {ws : List Int} (h : weightsB D ws = true) : spB D = true ∧ ws.length = D.length ∧ ∀ i, i < ws.length → 0 ≤ ix ws i ∧ ix ws i ≤ 9 := by
  unfold weightsB at h
  simp only [Bool.and_eq_true, decide_eq_true_eq] at h
  exact ⟨h.2.1, h.2.2, wtB_all h.1⟩
theorem mul_bd {x y : Int} (h1 : 0 ≤ x) (h2 : x ≤ 9) (h3 : 0 ≤ y) (h4 : y ≤ 60) : 0 ≤ x * y ∧ x * y ≤ 540 := by
  have a := Int.mul_nonneg h1 h3
  have b : x * y ≤ 9 * 60 := Int.mul_le_mul h2 h4 h3 (by decide)
  omega

end Go.Proofs.Ytpkiodpocggfbaa
