/- What is proved: the helpers of the laws that only read: sizes and equality of slices of numbers and of rows. No condition. -/
import Derived.Test.YtpkiodpocggfbaaSpec1
namespace Go.Proofs.Ytpkiodpocggfbaa
open Go.RowKit

def eqI (xs ys : List Int) : Bool := decide (xs = ys)
def eqM (D E : List (List Int)) : Bool := decide (D = E)
theorem eqI_refl (xs : List Int) : eqI xs xs = true := decide_eq_true rfl
theorem eqM_refl (D : List (List Int)) : eqM D D = true := decide_eq_true rfl
theorem eqI_len {xs ys : List Int} (h : xs.length ≠ ys.length) : eqI xs ys = false := decide_eq_false fun e => h (by rw [e])
theorem eqM_len {D E : List (List Int)} (h : D.length ≠ E.length) : eqM D E = false := decide_eq_false fun e => h (by rw [e])
theorem eqI_all {xs ys : List Int} (h : xs.length = ys.length) : allR (fun j => decide (ix xs j = ix ys j)) xs.length 0 = eqI xs ys := by
  rw [Bool.eq_iff_iff, allR_all]
  unfold eqI
  rw [decide_eq_true_iff]
  exact ⟨fun k => ext_ix h fun i hi => of_decide_eq_true (k i hi), fun e i _ => decide_eq_true (by rw [e])⟩
theorem eqM_all {D E : List (List Int)} (h : D.length = E.length) : allR (fun j => eqI (row D j) (row E j)) D.length 0 = eqM D E := by
  rw [Bool.eq_iff_iff, allR_all]
  unfold eqM
  rw [decide_eq_true_iff]
  exact ⟨fun k => ext_row h fun i hi => of_decide_eq_true (k i hi), fun e i _ => decide_eq_true (by rw [e])⟩

def szI (n : Nat) (l : Int) : Int := if l - n < 0 then -1 else l - n
def szR (D : List (List Int)) : Nat → Nat → Int → Int
  | 0, _, l => l
  | g + 1, i, l => if szI (row D i).length l < 0 then -1 else szR D g (i + 1) (szI (row D i).length l)
def szM (D : List (List Int)) (l : Int) : Int := if l - D.length < 0 then -1 else szR D D.length 0 (l - D.length)

theorem szI_bd (n : Nat) (l : Int) (hl1 : l ≤ 1048576) : -1 ≤ szI n l ∧ szI n l ≤ 1048576 := by
  unfold szI
  split <;> omega

/-- how many numbers rows hold -/
def total (D : List (List Int)) : Nat := (D.map List.length).sum
theorem szR_spec (D : List (List Int)) : ∀ g i l, i + g = D.length → 0 ≤ l → 0 ≤ szR D g i l → ((total (D.drop i) : Nat) : Int) ≤ l ∧ szR D g i l = l - (total (D.drop i) : Nat)
  | 0, i, l, hi, hl, h => by
    have : D.drop i = [] := List.drop_eq_nil_of_le (by omega)
    rw [this]; simp [total, szR, hl]
  | g + 1, i, l, hi, hl, h => by
    have hlt : i < D.length := by omega
    rw [szR] at h ⊢
    by_cases hz : szI (row D i).length l < 0
    · rw [if_pos hz] at h; omega
    · rw [if_neg hz] at h ⊢
      have e : szI (row D i).length l = l - (row D i).length := by
        unfold szI at hz ⊢
        by_cases q : l - ((row D i).length : Int) < 0
        · rw [if_pos q] at hz; omega
        · rw [if_neg q]
      obtain ⟨a, b⟩ := szR_spec D g (i + 1) (szI (row D i).length l) (by omega) (by omega) h
      rw [List.drop_eq_getElem_cons hlt]
      have et : total (D[i] :: D.drop (i + 1)) = (row D i).length + total (D.drop (i + 1)) := by
        rw [row_of hlt]
        show ((D[i].length :: (D.drop (i + 1)).map List.length).sum) = _
        rw [List.sum_cons]; rfl
      rw [et, b, e]
      rw [e] at a
      constructor <;> omega
theorem szM_spec {D : List (List Int)} {l : Int} (h : 0 ≤ szM D l) : ((D.length + total D : Nat) : Int) ≤ l ∧ szM D l = l - (D.length + total D : Nat) := by
  unfold szM at h ⊢
  by_cases q : l - (D.length : Int) < 0
  · rw [if_pos q] at h; omega
  · rw [if_neg q] at h ⊢
    obtain ⟨a, b⟩ := szR_spec D D.length 0 _ (by omega) (by omega) h
    simp only [List.drop_zero] at a b
    rw [b]
    constructor <;> omega
theorem le_total {D : List (List Int)} {r : List Int} (h : r ∈ D) : r.length ≤ total D := by
  induction D with
  | nil => cases h
  | cons a D ih =>
    have e : total (a :: D) = a.length + total D := by show ((a.length :: D.map List.length).sum) = _; rw [List.sum_cons]; rfl
    rw [e]
    rcases List.mem_cons.1 h with rfl | h
    · omega
    · have := ih h; omega
theorem row_le_total {D : List (List Int)} {i : Nat} (h : i < D.length) : (row D i).length ≤ total D := by
  rw [row_of h]
  exact le_total (List.getElem_mem h)
end Go.Proofs.Ytpkiodpocggfbaa
