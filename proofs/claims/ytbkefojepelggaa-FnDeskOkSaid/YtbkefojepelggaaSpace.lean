/- What is proved: impl.isSpace, spec.FarOk, spec.SpaceOk return whether rows are distances, a space, for every slice of rows. No condition. -/
import Derived.Test.YtbkefojepelggaaFar
namespace Go.Proofs.Ytbkefojepelggaa
open Go.RowKit

def tri (D : List (List Int)) (i k j : Nat) : Bool := decide (at2 D i k ≤ at2 D i j + at2 D j k)
def triB (D : List (List Int)) : Bool := allR (fun i => allR (fun k => allR (fun j => tri D i k j) D.length 0) D.length 0) D.length 0
/-- rows are a space -/
def spB (D : List (List Int)) : Bool := farB D && triB D
theorem farB_parts {D : List (List Int)} (h : farB D = true) : (1 ≤ D.length ∧ D.length ≤ 6) ∧ Sq D ∧ ∀ i, i < D.length → ∀ k, k < D.length → 0 ≤ at2 D i k ∧ at2 D i k ≤ 60 ∧ at2 D i k = at2 D k i ∧ (at2 D i k = 0 ↔ i = k) := by
  simp only [farB, Bool.and_eq_true] at h
  obtain ⟨h1, h2, h3⟩ := h
  refine ⟨of_decide_eq_true h1, sqB_sq h2, fun i hi k hk => ?_⟩
  exact of_decide_eq_true ((allR_all _ _).1 ((allR_all _ _).1 h3 i hi) k hk)

set_option maxHeartbeats 1000000 in
theorem isSpace_any (A : Option Addr) (c : Nat) (D : List (List Int)) (w : World) (h : Mat w A c D) :
    Calls Try.prog 45 #[.slice A D.length c] w fun e w' => e = .returned (.bool (spB D)) ∧ ∃ m, w' = w.drewN m := by
  obtain ⟨hlc, hcm, _⟩ := id h
  unfold maxLen at hcm
  cases hf : farB D with
  | false =>
    have HF : Hid (spB D = false) := Lib.hid (by simp [spB, hf])
    have HC := Lib.hid (areFar_any A c D w h)
    rw [hf] at HC
    clear hf
    go_enter Try.func45, Try.ntmps45
    go_wp2_with (go_at_call 76; refine HC.out.mono ?_; rintro e w' ⟨rfl, m0, rfl⟩)
    go_ret
    exact ⟨ret_bool HF.out.symm, _, rfl⟩
  | true =>
    have HF : Hid (spB D = triB D) := Lib.hid (by simp [spB, hf])
    have HC := Lib.hid (areFar_any A c D w h)
    rw [hf] at HC
    obtain ⟨⟨hn1, hn6⟩, hsq, hcells⟩ := farB_parts hf
    clear hf
    obtain ⟨b, o, rc, rb, ro, hA, hrow, _, hcell, _⟩ := h.square hsq
    obtain rfl := hA (by omega)
    go_enter Try.func45, Try.ntmps45
    go_wp2_with (go_at_call 76; refine HC.out.mono ?_; rintro e w' ⟨rfl, m0, rfl⟩)
    go_loopg [11] D.length (fun g s11 wr => ∃ i m : Nat, i + g = D.length ∧ s11 = .int .i64 i ∧ wr = w.drewN m ∧ Hid (allR (fun i => allR (fun k => allR (fun j => tri D i k j) D.length 0) D.length 0) g i = triB D))
    case atStart => exact ⟨0, _, by omega, rfl, rfl, Lib.hid rfl⟩
    case round =>
      obtain ⟨i, m1, hi, rfl, rfl, HI⟩ := hrel
      by_cases hin : i < D.length
      · obtain ⟨g1, rfl⟩ : ∃ g', gk = g' + 1 := ⟨gk - 1, by omega⟩
        have hin' : (i : Int) < D.length := by omega
        go_wp2
        go_loopg [16] D.length (fun g s16 wr => ∃ k m : Nat, k + g = D.length ∧ s16 = .int .i64 k ∧ wr = w.drewN m ∧ Hid (allR (fun k => allR (fun j => tri D i k j) D.length 0) g k = allR (fun k => allR (fun j => tri D i k j) D.length 0) D.length 0))
        case atStart => exact ⟨0, _, by omega, rfl, rfl, Lib.hid rfl⟩
        case round =>
          obtain ⟨k, m2, hk, rfl, rfl, HK⟩ := hrel
          by_cases hkn : k < D.length
          · obtain ⟨g2, rfl⟩ : ∃ g', gk = g' + 1 := ⟨gk - 1, by omega⟩
            have hkn' : (k : Int) < D.length := by omega
            go_wp2
            go_loopg [21] D.length (fun g s21 wr => ∃ j m : Nat, j + g = D.length ∧ s21 = .int .i64 j ∧ wr = w.drewN m ∧ Hid (allR (fun j => tri D i k j) g j = allR (fun j => tri D i k j) D.length 0))
            case atStart => exact ⟨0, _, by omega, rfl, rfl, Lib.hid rfl⟩
            case round =>
              obtain ⟨j, m3, hj, rfl, rfl, HJ⟩ := hrel
              by_cases hjn : j < D.length
              · obtain ⟨g3, rfl⟩ : ∃ g', gk = g' + 1 := ⟨gk - 1, by omega⟩
                have hjn' : (j : Int) < D.length := by omega
                have r1 := hrow i hin
                have r2 := hrow j hjn
                have c1 := hcell i hin k hkn
                have c2 := hcell i hin j hjn
                have c3 := hcell j hjn k hkn
                obtain ⟨b1, b1', _, _⟩ := hcells i hin k hkn
                obtain ⟨b2, b2', _, _⟩ := hcells i hin j hjn
                obtain ⟨b3, b3', _, _⟩ := hcells j hjn k hkn
                clear hrow hcell hcells
                by_cases ht : at2 D i k ≤ at2 D i j + at2 D j k
                · have HT : Hid (tri D i k j = true) := Lib.hid (decide_eq_true ht)
                  go_wp2
                  go_quiet (fail)
                  go_wp2
                  go_roundg g3
                  case measure => omega
                  case rel => exact ⟨j + 1, _, by omega, by go_num, by first | rfl | exact drewN_add _ _ _, Lib.hid (by rw [← HJ.out, allR, HT.out, Bool.true_and])⟩
                · have HT : Hid (tri D i k j = false) := Lib.hid (decide_eq_false ht)
                  go_wp2
                  go_quiet (fail)
                  go_wp2
                  go_ret
                  exact ⟨ret_bool (by rw [HF.out, ← HI.out, allR, ← HK.out, allR, ← HJ.out, allR, HT.out]; rfl), _, drewN_add _ _ _⟩
              · have hjn' : ¬ (j : Int) < D.length := by omega
                obtain rfl : gk = 0 := by omega
                have HT : Hid (allR (fun j => tri D i k j) D.length 0 = true) := Lib.hid (by rw [← HJ.out]; rfl)
                clear hrow hcell hcells HJ
                go_wp2
                go_roundg g2
                case measure => omega
                case rel => exact ⟨k + 1, _, by omega, by go_num, rfl, Lib.hid (by rw [← HK.out, allR, HT.out, Bool.true_and])⟩
          · have hkn' : ¬ (k : Int) < D.length := by omega
            obtain rfl : gk = 0 := by omega
            have HT : Hid (allR (fun k => allR (fun j => tri D i k j) D.length 0) D.length 0 = true) := Lib.hid (by rw [← HK.out]; rfl)
            clear hrow hcell hcells HK
            go_wp2
            go_roundg g1
            case measure => omega
            case rel => exact ⟨i + 1, _, by omega, by go_num, rfl, Lib.hid (by rw [← HI.out, allR, HT.out, Bool.true_and])⟩
      · have hin' : ¬ (i : Int) < D.length := by omega
        obtain rfl : gk = 0 := by omega
        clear hrow hcell hcells
        go_wp2
        go_ret
        exact ⟨ret_bool (by rw [HF.out, ← HI.out]; rfl), _, rfl⟩
end Go.Proofs.Ytbkefojepelggaa
