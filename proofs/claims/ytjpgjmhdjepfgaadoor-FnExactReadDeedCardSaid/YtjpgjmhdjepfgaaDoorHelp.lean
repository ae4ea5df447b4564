/- What is proved: the helpers of the laws that only read: sizes and equality of slices of numbers and of rows. No condition. -/
import Derived.Test.YtjpgjmhdjepfgaaDoorSpec1
namespace Go.Proofs.YtjpgjmhdjepfgaaDoor
open Go.RowKit

def eqI (xs ys : List Int) : Bool := decide (xs = ys)
def eqM (D E : List (List Int)) : Bool := decide (D = E)
theorem eqI_refl (xs : List Int) : eqI xs xs = true := decide_eq_true rfl
theorem eqM_refl (D : List (List Int)) : eqM D D = true := decide_eq_true rfl
theorem eqI_len {xs ys : List Int} (h : xs.length ≠ ys.length) : eqI xs ys = false := decide_eq_false fun e => h (by rw [e])
theorem eqM_len {D E : List (List Int)} (h : D.length ≠ E.length) : eqM D E = false := decide_eq_false fun e => h (by rw [e])
theorem eqI_all {xs ys : List Int} (h : xs.length = ys.length) : allR (fun j => decide (ix xs j = ix ys j)) xs.length 0 = eqI xs ys := by
  rw [Bool.eq_iff_iff, allR_all]
  unfold eqI
  rw [decide_eq_true_iff]
  exact ⟨fun k => ext_ix h fun i hi => of_decide_eq_true (k i hi), fun e i _ => decide_eq_true (by rw [e])⟩
theorem eqM_all {D E : List (List Int)} (h : D.length = E.length) : allR (fun j => eqI (row D j) (row E j)) D.length 0 = eqM D E := by
  rw [Bool.eq_iff_iff, allR_all]
  unfold eqM
  rw [decide_eq_true_iff]
  exact ⟨fun k => ext_row h fun i hi => of_decide_eq_true (k i hi), fun e i _ => decide_eq_true (by rw [e])⟩

set_option maxHeartbeats 1000000 in
theorem eqIntS_any (A B : Option Addr) (c d : Nat) (xs ys : List Int) (w : World) (hx : Ints w A c xs) (hy : Ints w B d ys) :
    Calls Tryd.prog 31 #[.slice A xs.length c, .slice B ys.length d] w fun e w' => e = .returned (.bool (eqI xs ys)) ∧ ∃ m, w' = w.drewN m := by
  obtain ⟨h1, h2, b, o, hA, hc⟩ := hx
  obtain ⟨k1, k2, b', o', hB, hd⟩ := hy
  unfold maxLen at h2 k2
  by_cases hl : xs.length = ys.length
  · have hl' : ((xs.length : Int) != (ys.length : Int)) = false := by simp [hl]
    have HA := Lib.hid (eqI_all hl)
    have HL := Lib.hid hl
    have hlt : ∀ i : Nat, i < xs.length → i < ys.length := fun i hi => by omega
    clear hl
    go_enter Tryd.func31, Tryd.ntmps31
    go_wp2
    clear hl'
    go_loopg [5] (xs.length) (fun g s5 wr => ∃ (i m : Nat), i + g = xs.length ∧ s5 = .int .i64 i ∧ wr = w.drewN m ∧ Hid (allR (fun j => decide (ix xs j = ix ys j)) g i = eqI xs ys))
    case atStart => exact ⟨0, _, by omega, rfl, by first | rfl | exact drewN_0 _ | exact drewN_add _ _ _, Lib.hid (HA.out)⟩
    case round =>
      obtain ⟨i, mi, hi, rfl, rfl, Hi⟩ := hrel
      by_cases hini : i < xs.length
      · obtain ⟨gi, rfl⟩ : ∃ g', gk = g' + 1 := ⟨gk - 1, by omega⟩
        have hini' : (i : Int) < (xs.length : Nat) := by omega
        have hl2 := hlt i hini
        obtain rfl := hA (by omega)
        obtain rfl := hB (by omega)
        have c1 := hc i hini
        have c2 := hd i hl2
        clear hc hd hlt
        by_cases e : ix xs i = ix ys i
        · have e' : (ix xs i != ix ys i) = false := by simp [e]
          have E1 := Lib.hid e
          clear e
          go_wp2
          go_quiet (fail)
          go_wp2
          go_roundg gi
          case measure => omega
          case rel => exact ⟨i + 1, _, by omega, by go_num, by first | rfl | exact drewN_0 _ | exact drewN_add _ _ _, Lib.hid (by rw [← Hi.out, allR, decide_eq_true E1.out, Bool.true_and])⟩
        · have e' : (ix xs i != ix ys i) = true := by simp [e]
          have E1 := Lib.hid e
          clear e
          go_wp2
          go_quiet (fail)
          go_wp2
          go_ret
          exact ⟨ret_bool (by rw [← Hi.out, allR, decide_eq_false E1.out]; rfl), _, by first | rfl | exact drewN_add _ _ _⟩
      · have hini' : ¬ (i : Int) < (xs.length : Nat) := by omega
        obtain rfl : gk = 0 := by omega
        clear hc hd hlt
        go_wp2
        go_ret
        exact ⟨ret_bool (by rw [← Hi.out]; rfl), _, rfl⟩
    done
  · have hl' : ((xs.length : Int) != (ys.length : Int)) = true := by simp; omega
    have HL := Lib.hid (eqI_len hl)
    clear hl
    go_enter Tryd.func31, Tryd.ntmps31
    go_wp2
    go_ret
    exact ⟨ret_bool HL.out.symm, 0, rfl⟩

def szI (n : Nat) (l : Int) : Int := if l - n < 0 then -1 else l - n
def szR (D : List (List Int)) : Nat → Nat → Int → Int
  | 0, _, l => l
  | g + 1, i, l => if szI (row D i).length l < 0 then -1 else szR D g (i + 1) (szI (row D i).length l)
def szM (D : List (List Int)) (l : Int) : Int := if l - D.length < 0 then -1 else szR D D.length 0 (l - D.length)

set_option maxHeartbeats 400000 in
theorem szIntS_any (A : Option Addr) (n c : Nat) (l : Int) (w : World) (hl0 : 0 ≤ l) (hl1 : l ≤ 1048576) (h : n ≤ maxLen) :
    Calls Tryd.prog 25 #[.slice A n c, .int .i64 l] w fun e w' => e = .returned (.int .i64 (szI n l)) ∧ ∃ m, w' = w.drewN m := by
  unfold maxLen at h
  have Hd := Lib.hid (show szI n l = if l - n < 0 then -1 else l - n from rfl)
  by_cases hq : l - n < 0
  · go_enter Tryd.func25, Tryd.ntmps25
    go_wp2
    go_ret
    exact ⟨ret_int (by rw [Hd.out, if_pos hq]), 0, rfl⟩
  · go_enter Tryd.func25, Tryd.ntmps25
    go_wp2
    go_ret
    exact ⟨ret_int (by rw [Hd.out, if_neg (by omega)]), 0, rfl⟩
theorem szI_bd (n : Nat) (l : Int) (hl1 : l ≤ 1048576) : -1 ≤ szI n l ∧ szI n l ≤ 1048576 := by
  unfold szI
  split <;> omega

/-- how many numbers rows hold -/
def total (D : List (List Int)) : Nat := (D.map List.length).sum
theorem szR_spec (D : List (List Int)) : ∀ g i l, i + g = D.length → 0 ≤ l → 0 ≤ szR D g i l → ((total (D.drop i) : Nat) : Int) ≤ l ∧ szR D g i l = l - (total (D.drop i) : Nat)
  | 0, i, l, hi, hl, h => by
    have : D.drop i = [] := List.drop_eq_nil_of_le (by omega)
    rw [this]; simp [total, szR, hl]
  | g + 1, i, l, hi, hl, h => by
    have hlt : i < D.length := by omega
    rw [szR] at h ⊢
    by_cases hz : szI (row D i).length l < 0
    · rw [if_pos hz] at h; omega
    · rw [if_neg hz] at h ⊢
      have e : szI (row D i).length l = l - (row D i).length := by
        unfold szI at hz ⊢
        by_cases q : l - ((row D i).length : Int) < 0
        · rw [if_pos q] at hz; omega
        · rw [if_neg q]
      obtain ⟨a, b⟩ := szR_spec D g (i + 1) (szI (row D i).length l) (by omega) (by omega) h
      rw [List.drop_eq_getElem_cons hlt]
      have et : total (D[i] :: D.drop (i + 1)) = (row D i).length + total (D.drop (i + 1)) := by
        rw [row_of hlt]
        show ((D[i].length :: (D.drop (i + 1)).map List.length).sum) = _
        rw [List.sum_cons]; rfl
      rw [et, b, e]
      rw [e] at a
      constructor <;> omega
theorem szM_spec {D : List (List Int)} {l : Int} (h : 0 ≤ szM D l) : ((D.length + total D : Nat) : Int) ≤ l ∧ szM D l = l - (D.length + total D : Nat) := by
  unfold szM at h ⊢
  by_cases q : l - (D.length : Int) < 0
  · rw [if_pos q] at h; omega
  · rw [if_neg q] at h ⊢
    obtain ⟨a, b⟩ := szR_spec D D.length 0 _ (by omega) (by omega) h
    simp only [List.drop_zero] at a b
    rw [b]
    constructor <;> omega
theorem le_total {D : List (List Int)} {r : List Int} (h : r ∈ D) : r.length ≤ total D := by
  induction D with
  | nil => cases h
  | cons a D ih =>
    have e : total (a :: D) = a.length + total D := by show ((a.length :: D.map List.length).sum) = _; rw [List.sum_cons]; rfl
    rw [e]
    rcases List.mem_cons.1 h with rfl | h
    · omega
    · have := ih h; omega
theorem row_le_total {D : List (List Int)} {i : Nat} (h : i < D.length) : (row D i).length ≤ total D := by
  rw [row_of h]
  exact le_total (List.getElem_mem h)
end Go.Proofs.YtjpgjmhdjepfgaaDoor
