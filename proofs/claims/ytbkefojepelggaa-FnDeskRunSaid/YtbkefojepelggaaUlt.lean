/- What is proved: impl.UltraOk of an ultrametric space. Conditions: those of each contract. -/
import Derived.Test.YtbkefojepelggaaPa
namespace Go.Proofs.Ytbkefojepelggaa
open Go.RowKit
set_option maxHeartbeats 2000000 in
theorem iUltraOk_true (A : Option Addr) (c : Nat) (D : List (List Int)) (w : World) (h : Mat w A c D) (hs : spB D = true) (hu : ∀ i, i < D.length → ∀ k, k < D.length → ∀ j, j < D.length → at2 D i k ≤ max (at2 D i j) (at2 D j k)) :
    Calls Try.prog 16 #[.slice A D.length c] w fun e w' => e = .returned (.bool true) ∧ ∃ m, w' = w.drewN m := by
  obtain ⟨hlc, hcm, _⟩ := id h
  unfold maxLen at hcm
  have HC := Lib.hid (isSpace_any A c D w h)
  rw [hs] at HC
  have hf : farB D = true := by unfold spB at hs; simp only [Bool.and_eq_true] at hs; exact hs.1
  obtain ⟨⟨hn1, hn6⟩, hsq, hcells⟩ := farB_parts hf
  clear hf hs
  obtain ⟨b, o, rc, rb, ro, hA, hrow, _, hcell, _⟩ := h.square hsq
  obtain rfl := hA (by omega)
  have HU := Lib.hid hu
  clear hu
  go_enter Try.func16, Try.ntmps16
  go_wp2_with (go_at_call 45; refine HC.out.mono ?_; rintro e w' ⟨rfl, m0, rfl⟩)
  go_loopg [11] D.length (fun g s11 wr => ∃ i m : Nat, i + g = D.length ∧ s11 = .int .i64 i ∧ wr = w.drewN m)
  case atStart => exact ⟨0, _, by omega, rfl, rfl⟩
  case round =>
    obtain ⟨i, m1, hi, rfl, rfl⟩ := hrel
    by_cases hin : i < D.length
    · obtain ⟨g1, rfl⟩ : ∃ g', gk = g' + 1 := ⟨gk - 1, by omega⟩
      have hin' : (i : Int) < D.length := by omega
      go_wp2
      go_loopg [16] D.length (fun g s16 wr => ∃ k m : Nat, k + g = D.length ∧ s16 = .int .i64 k ∧ wr = w.drewN m)
      case atStart => exact ⟨0, _, by omega, rfl, rfl⟩
      case round =>
        obtain ⟨k, m2, hk, rfl, rfl⟩ := hrel
        by_cases hkn : k < D.length
        · obtain ⟨g2, rfl⟩ : ∃ g', gk = g' + 1 := ⟨gk - 1, by omega⟩
          have hkn' : (k : Int) < D.length := by omega
          go_wp2
          go_loopg [21] D.length (fun g s21 wr => ∃ j m : Nat, j + g = D.length ∧ s21 = .int .i64 j ∧ wr = w.drewN m)
          case atStart => exact ⟨0, _, by omega, rfl, rfl⟩
          case round =>
            obtain ⟨j, m3, hj, rfl, rfl⟩ := hrel
            by_cases hjn : j < D.length
            · obtain ⟨g3, rfl⟩ : ∃ g', gk = g' + 1 := ⟨gk - 1, by omega⟩
              have hjn' : (j : Int) < D.length := by omega
              have r1 := hrow i hin
              have r2 := hrow j hjn
              have c1 := hcell i hin k hkn
              have c2 := hcell i hin j hjn
              have c3 := hcell j hjn k hkn
              have ht := HU.out i hin k hkn j hjn
              obtain ⟨b1, b1', _, _⟩ := hcells i hin k hkn
              obtain ⟨b2, b2', _, _⟩ := hcells i hin j hjn
              obtain ⟨b3, b3', _, _⟩ := hcells j hjn k hkn
              clear hrow hcell hcells
              obtain ⟨X, hX⟩ : ∃ X, at2 D i k = X := ⟨_, rfl⟩
              obtain ⟨Y, hY⟩ : ∃ X, at2 D i j = X := ⟨_, rfl⟩
              obtain ⟨Z, hZ⟩ : ∃ X, at2 D j k = X := ⟨_, rfl⟩
              rw [hX] at c1 b1 b1'
              rw [hY] at c2 b2 b2'
              rw [hZ] at c3 b3 b3'
              rw [hX, hY, hZ] at ht
              have hl : ¬ X > (if Y < Z then Z else Y) := by split <;> omega
              clear ht hX hY hZ
              go_wp2
              go_quiet (fail)
              all_goals go_wp2
              all_goals
                go_roundg g3
                case measure => omega
                case rel => exact ⟨j + 1, _, by omega, by go_num, by first | rfl | exact drewN_add _ _ _⟩
            · have hjn' : ¬ (j : Int) < D.length := by omega
              obtain rfl : gk = 0 := by omega
              clear hrow hcell hcells
              go_wp2
              go_roundg g2
              case measure => omega
              case rel => exact ⟨k + 1, _, by omega, by go_num, rfl⟩
        · have hkn' : ¬ (k : Int) < D.length := by omega
          obtain rfl : gk = 0 := by omega
          clear hrow hcell hcells
          go_wp2
          go_roundg g1
          case measure => omega
          case rel => exact ⟨i + 1, _, by omega, by go_num, rfl⟩
    · have hin' : ¬ (i : Int) < D.length := by omega
      clear hrow hcell hcells
      go_wp2
      go_ret
      exact ⟨rfl, _, rfl⟩
end Go.Proofs.Ytbkefojepelggaa
