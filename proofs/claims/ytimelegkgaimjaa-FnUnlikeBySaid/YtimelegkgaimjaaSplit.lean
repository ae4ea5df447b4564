/- What is proved: impl.SplitOk and spec.SplitOk return whether a number tells one lot of a split. No condition. -/
import Derived.Test.YtimelegkgaimjaaOwn
namespace Go.Proofs.Ytimelegkgaimjaa
open Go.RowKit

theorem wrap_pow {k : Nat} (h : k ≤ 40) : wrap64 (2 ^ k) = 2 ^ k := by
  have h1 : (2 : Int) ^ k ≤ 2 ^ 40 := by exact_mod_cast Nat.pow_le_pow_right (by decide) h
  have h2 : (0 : Int) < 2 ^ k := Int.pow_pos (by decide)
  have h3 : (2 : Int) ^ 40 = 1099511627776 := by decide
  exact IntWalk.wrap64_in _ ⟨by omega, by omega⟩
theorem wrap_pow1 {k : Nat} (h : k ≤ 40) : wrap64 (wrap64 (2 ^ k) - 1) = 2 ^ k - 1 := by
  rw [wrap_pow h]
  have h1 : (2 : Int) ^ k ≤ 2 ^ 40 := by exact_mod_cast Nat.pow_le_pow_right (by decide) h
  have h2 : (0 : Int) < 2 ^ k := Int.pow_pos (by decide)
  have h3 : (2 : Int) ^ 40 = 1099511627776 := by decide
  exact IntWalk.wrap64_in _ ⟨by omega, by omega⟩
theorem spB_far {D : List (List Int)} (h : spB D = true) : farB D = true := by
  unfold spB at h
  simp only [Bool.and_eq_true] at h
  exact h.1
theorem spB_len {D : List (List Int)} (h : spB D = true) : 1 ≤ D.length ∧ D.length ≤ 6 := (farB_parts (spB_far h)).1

/-- a number tells one lot of a split of a space -/
def splitB (D : List (List Int)) (l : Int) : Bool := spB D && decide (2 ≤ D.length ∧ 1 ≤ l ∧ l < 2 ^ (D.length - 1))

set_option maxHeartbeats 1000000 in
theorem isSplit_any (A : Option Addr) (c : Nat) (D : List (List Int)) (l : Int) (w : World) (h : Mat w A c D) :
    Calls Try.prog 51 #[.slice A D.length c, .int .i64 l] w fun e w' => e = .returned (.bool (splitB D l)) ∧ ∃ m, w' = w.drewN m := by
  have HC := Lib.hid (isSpace_any A c D w h)
  have Hd := Lib.hid (show splitB D l = (spB D && decide (2 ≤ D.length ∧ 1 ≤ l ∧ l < 2 ^ (D.length - 1))) from rfl)
  cases hs : spB D with
  | false =>
    rw [hs] at HC
    have HF := Lib.hid (show splitB D l = false by rw [Hd.out, hs]; rfl)
    clear hs
    go_enter Try.func51, Try.ntmps51
    go_wp2_with (go_at_call 34; refine HC.out.mono ?_; rintro e w' ⟨rfl, m0, rfl⟩)
    go_ret
    exact ⟨ret_bool HF.out.symm, _, rfl⟩
  | true =>
    rw [hs] at HC
    obtain ⟨n1, n6⟩ := spB_len hs
    have HF := Lib.hid (show splitB D l = decide (2 ≤ D.length ∧ 1 ≤ l ∧ l < 2 ^ (D.length - 1)) by rw [Hd.out, hs]; rfl)
    have HP := Lib.hid (wrap_pow (k := D.length - 1) (by omega))
    clear hs Hd
    by_cases h2 : 2 ≤ D.length
    · have h2' : (2 : Int) ≤ D.length := by omega
      by_cases hl : 1 ≤ l
      · go_enter Try.func51, Try.ntmps51
        go_wp2_with (go_at_call 34; refine HC.out.mono ?_; rintro e w' ⟨rfl, m0, rfl⟩)
        go_ret
        exact ⟨ret_bool (by rw [HF.out, HP.out]; simp [h2, hl]), _, rfl⟩
      · go_enter Try.func51, Try.ntmps51
        go_wp2_with (go_at_call 34; refine HC.out.mono ?_; rintro e w' ⟨rfl, m0, rfl⟩)
        go_ret
        exact ⟨ret_bool (by rw [HF.out]; exact (decide_eq_false (by omega)).symm), _, rfl⟩
    · have h2' : ¬ (2 : Int) ≤ D.length := by omega
      go_enter Try.func51, Try.ntmps51
      go_wp2_with (go_at_call 34; refine HC.out.mono ?_; rintro e w' ⟨rfl, m0, rfl⟩)
      go_ret
      exact ⟨ret_bool (by rw [HF.out]; exact (decide_eq_false (by omega)).symm), _, rfl⟩

set_option maxHeartbeats 1000000 in
theorem sSplitOk_any (A : Option Addr) (c : Nat) (D : List (List Int)) (l : Int) (w : World) (h : Mat w A c D) :
    Calls Try.prog 48 #[.slice A D.length c, .int .i64 l] w fun e w' => e = .returned (.bool (splitB D l)) ∧ ∃ m, w' = w.drewN m := by
  have HC := Lib.hid (SpaceOk_any A c D w h)
  have Hd := Lib.hid (show splitB D l = (spB D && decide (2 ≤ D.length ∧ 1 ≤ l ∧ l < 2 ^ (D.length - 1))) from rfl)
  cases hs : spB D with
  | false =>
    rw [hs] at HC
    have HF := Lib.hid (show splitB D l = false by rw [Hd.out, hs]; rfl)
    clear hs
    go_enter Try.func48, Try.ntmps48
    go_wp2_with (go_at_call 21; refine HC.out.mono ?_; rintro e w' ⟨rfl, m0, rfl⟩)
    go_ret
    exact ⟨ret_bool HF.out.symm, _, rfl⟩
  | true =>
    rw [hs] at HC
    obtain ⟨n1, n6⟩ := spB_len hs
    have HF := Lib.hid (show splitB D l = decide (2 ≤ D.length ∧ 1 ≤ l ∧ l < 2 ^ (D.length - 1)) by rw [Hd.out, hs]; rfl)
    have HP := Lib.hid (wrap_pow1 (k := D.length - 1) (by omega))
    clear hs Hd
    by_cases h2 : 2 ≤ D.length
    · have h2' : (1 : Int) < D.length := by omega
      go_enter Try.func48, Try.ntmps48
      go_wp2_with (first | (go_at_call 21; refine HC.out.mono ?_; rintro e w' ⟨rfl, m0, rfl⟩) | (go_at_call 37; refine (l1In_any _ _ _ _).mono ?_; rintro e w' ⟨rfl, rfl⟩))
      go_ret
      exact ⟨ret_bool (by rw [HF.out, HP.out]; unfold inB; rw [Bool.eq_iff_iff, decide_eq_true_iff, decide_eq_true_iff]; omega), _, rfl⟩
    · have h2' : ¬ (1 : Int) < D.length := by omega
      go_enter Try.func48, Try.ntmps48
      go_wp2_with (go_at_call 21; refine HC.out.mono ?_; rintro e w' ⟨rfl, m0, rfl⟩)
      go_ret
      exact ⟨ret_bool (by rw [HF.out]; exact (decide_eq_false (by omega)).symm), _, rfl⟩
end Go.Proofs.Ytimelegkgaimjaa
