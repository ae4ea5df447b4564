/- What is proved: impl.areFar returns whether rows are distances, for every slice of rows. No condition. -/
import Derived.Test.YtbkefojepelggaaMem
namespace Go.Proofs.Ytbkefojepelggaa
open Go.RowKit

def cellOk (D : List (List Int)) (i k : Nat) : Bool := decide (0 ≤ at2 D i k ∧ at2 D i k ≤ 60 ∧ at2 D i k = at2 D k i ∧ (at2 D i k = 0 ↔ i = k))
def sqB (D : List (List Int)) : Bool := allR (fun i => decide ((row D i).length = D.length)) D.length 0
def cellsB (D : List (List Int)) : Bool := allR (fun i => allR (fun k => cellOk D i k) D.length 0) D.length 0
def sizeB (D : List (List Int)) : Bool := decide (1 ≤ D.length ∧ D.length ≤ 6)
/-- rows are distances -/
def farB (D : List (List Int)) : Bool := sizeB D && (sqB D && cellsB D)
theorem sqB_sq {D : List (List Int)} (h : sqB D = true) : Sq D := fun i hi => of_decide_eq_true ((allR_all _ _).1 h i hi)
theorem sq_sqB {D : List (List Int)} (h : Sq D) : sqB D = true := (allR_all _ _).2 fun i hi => decide_eq_true (h i hi)

set_option maxHeartbeats 1000000 in
theorem areFar_any (A : Option Addr) (c : Nat) (D : List (List Int)) (w : World) (h : Mat w A c D) :
    Calls Try.prog 76 #[.slice A D.length c] w fun e w' => e = .returned (.bool (farB D)) ∧ ∃ m, w' = w.drewN m := by
  obtain ⟨hlc, hcm, _⟩ := id h
  unfold maxLen at hcm
  obtain ⟨b, o, R, rc, rb, ro, hA, hrow, hlen, hR, hcell, _⟩ := h.parts
  by_cases h1 : D.length < 1
  · have h1' : (D.length : Int) < 1 := by omega
    have HF : Hid (farB D = false) := Lib.hid (by simp [farB, sizeB]; omega)
    go_enter Try.func76, Try.ntmps76
    go_wp2
    go_ret
    exact ⟨ret_bool HF.out.symm, 0, rfl⟩
  by_cases h6 : 6 < D.length
  · have h1' : ¬ (D.length : Int) < 1 := by omega
    have h6' : (6 : Int) < D.length := by omega
    have HF : Hid (farB D = false) := Lib.hid (by simp [farB, sizeB]; omega)
    go_enter Try.func76, Try.ntmps76
    go_wp2
    go_ret
    exact ⟨ret_bool HF.out.symm, 0, rfl⟩
  have h1' : ¬ (D.length : Int) < 1 := by omega
  have h6' : ¬ (6 : Int) < D.length := by omega
  have hsz : sizeB D = true := by simp [sizeB]; omega
  obtain rfl := hA (by omega)
  have HS : Hid (farB D = (sqB D && cellsB D)) := Lib.hid (by simp [farB, hsz])
  clear hsz
  go_enter Try.func76, Try.ntmps76
  go_wp2
  go_loopg [19] D.length (fun g s19 wr => ∃ i m : Nat, i + g = D.length ∧ s19 = .int .i64 i ∧ wr = w.drewN m ∧ Hid (allR (fun i => decide ((row D i).length = D.length)) g i = sqB D))
  case atStart => exact ⟨0, 0, by omega, rfl, rfl, Lib.hid rfl⟩
  case round =>
    obtain ⟨i, m1, hi, rfl, rfl, HI⟩ := hrel
    by_cases hin : i < D.length
    · obtain ⟨g', rfl⟩ : ∃ g', gk = g' + 1 := ⟨gk - 1, by omega⟩
      have hin' : (i : Int) < D.length := by omega
      have r1 := hrow i hin
      have l1 := hlen i hin
      unfold maxLen at l1
      clear hrow hcell hlen hR
      by_cases hq : (row D i).length = D.length
      · have hq' : (((row D i).length : Int) != (D.length : Int)) = false := by simp [hq]
        have HQ := Lib.hid hq
        clear hq
        go_wp2
        go_roundg g'
        case measure => omega
        case rel => exact ⟨i + 1, _, by omega, by go_num, rfl, Lib.hid (by rw [← HI.out, allR, decide_eq_true HQ.out, Bool.true_and])⟩
      · have hq' : (((row D i).length : Int) != (D.length : Int)) = true := by simp; omega
        have HQ := Lib.hid hq
        clear hq
        go_wp2
        go_ret
        exact ⟨ret_bool (by rw [HS.out, ← HI.out, allR, decide_eq_false HQ.out]; rfl), _, rfl⟩
    · have hin' : ¬ (i : Int) < D.length := by omega
      obtain rfl : gk = 0 := by omega
      have hsq : sqB D = true := HI.out.symm
      have HS2 : Hid (farB D = cellsB D) := Lib.hid (by rw [HS.out, hsq, Bool.true_and])
      have hS := sqB_sq hsq
      have hRs : ∀ k, k < D.length → R k = some ⟨rb k, ro k, none⟩ := fun k hk => hR k hk (by rw [hS k hk]; omega)
      have hrow' : ∀ k, k < D.length → w.cell? ⟨b, o + k, none⟩ = some (.slice (some ⟨rb k, ro k, none⟩) D.length (rc k)) := fun k hk => by rw [hrow k hk, hRs k hk, hS k hk]
      have hcell' : ∀ k, k < D.length → ∀ j, j < D.length → w.cell? ⟨rb k, ro k + j, none⟩ = some (.int .i64 (at2 D k j)) := fun k hk j hj => hcell k hk j (by rw [hS k hk]; exact hj)
      clear HS HI hsq hS hRs hrow hcell hR hlen
      go_wp2
      go_loopg [31] D.length (fun g s31 wr => ∃ i m : Nat, i + g = D.length ∧ s31 = .int .i64 i ∧ wr = w.drewN m ∧ Hid (allR (fun i => allR (fun k => cellOk D i k) D.length 0) g i = cellsB D))
      case atStart => exact ⟨0, _, by omega, rfl, rfl, Lib.hid rfl⟩
      case round =>
        obtain ⟨i, m2, hi, rfl, rfl, HI⟩ := hrel
        by_cases hin : i < D.length
        · obtain ⟨g', rfl⟩ : ∃ g', gk = g' + 1 := ⟨gk - 1, by omega⟩
          have hin' : (i : Int) < D.length := by omega
          have r1 := hrow' i hin
          go_wp2
          go_loopg [38] D.length (fun g s38 wr => ∃ k m : Nat, k + g = D.length ∧ s38 = .int .i64 k ∧ wr = w.drewN m ∧ Hid (allR (fun k => cellOk D i k) g k = allR (fun k => cellOk D i k) D.length 0))
          case atStart => exact ⟨0, _, by omega, rfl, rfl, Lib.hid rfl⟩
          case round =>
            obtain ⟨k, m3, hk, rfl, rfl, HK⟩ := hrel
            by_cases hkn : k < D.length
            · obtain ⟨g2, rfl⟩ : ∃ g2, gk = g2 + 1 := ⟨gk - 1, by omega⟩
              have hkn' : (k : Int) < D.length := by omega
              have r2 := hrow' k hkn
              have c1 := hcell' i hin k hkn
              have c2 := hcell' k hkn i hin
              clear hrow' hcell'
              have Hdef := Lib.hid (show cellOk D i k = decide (0 ≤ at2 D i k ∧ at2 D i k ≤ 60 ∧ at2 D i k = at2 D k i ∧ (at2 D i k = 0 ↔ i = k)) from rfl)
              have bad : cellOk D i k = false → farB D = false := fun hb => by
                rw [HS2.out, ← HI.out, allR, ← HK.out, allR, hb]; rfl
              have HB := Lib.hid bad
              clear bad
              by_cases e1 : at2 D i k = at2 D k i
              · have e1' : (at2 D i k != at2 D k i) = false := by simp [e1]
                have E1 := Lib.hid e1
                clear e1
                by_cases e2 : at2 D i k < 0
                · go_wp2
                  go_ret
                  exact ⟨ret_bool (HB.out (by rw [Hdef.out]; simp; omega)).symm, _, rfl⟩
                by_cases e3 : 60 < at2 D i k
                · go_wp2
                  go_ret
                  exact ⟨ret_bool (HB.out (by rw [Hdef.out]; simp; omega)).symm, _, rfl⟩
                by_cases e4 : at2 D i k = 0
                · have e4' : (at2 D i k == 0) = true := by simp [e4]
                  have E4 := Lib.hid e4
                  clear e4
                  by_cases e5 : i = k
                  · have e5' : ((i : Int) == (k : Int)) = true := by simp [e5]
                    have E5 := Lib.hid e5
                    clear e5
                    go_wp2
                    go_roundg g2
                    case measure => omega
                    case rel => exact ⟨k + 1, _, by omega, by go_num, rfl, Lib.hid (by rw [← HK.out, allR, Hdef.out, decide_eq_true ⟨by omega, by omega, E1.out, fun _ => E5.out, fun _ => E4.out⟩, Bool.true_and])⟩
                  · have e5' : ((i : Int) == (k : Int)) = false := by simp; omega
                    go_wp2
                    go_ret
                    exact ⟨ret_bool (HB.out (by rw [Hdef.out]; have := E4.out; simp; omega)).symm, _, rfl⟩
                · have e4' : (at2 D i k == 0) = false := by simp [e4]
                  have E4 := Lib.hid e4
                  clear e4
                  by_cases e5 : i = k
                  · have e5' : ((i : Int) == (k : Int)) = true := by simp [e5]
                    have E5 := Lib.hid e5
                    clear e5
                    go_wp2
                    go_ret
                    exact ⟨ret_bool (HB.out (by rw [Hdef.out]; have := E4.out; have := E5.out; simp; omega)).symm, _, rfl⟩
                  · have e5' : ((i : Int) == (k : Int)) = false := by simp; omega
                    go_wp2
                    go_roundg g2
                    case measure => omega
                    case rel => exact ⟨k + 1, _, by omega, by go_num, rfl, Lib.hid (by rw [← HK.out, allR, Hdef.out, decide_eq_true ⟨by omega, by omega, E1.out, fun h => absurd h E4.out, fun h => absurd h e5⟩, Bool.true_and])⟩
              · have e1' : (at2 D i k != at2 D k i) = true := by simp [e1]
                have E1 := Lib.hid e1
                clear e1
                go_wp2
                go_ret
                exact ⟨ret_bool (HB.out (by rw [Hdef.out]; have := E1.out; simp; omega)).symm, _, rfl⟩
            · have hkn' : ¬ (k : Int) < D.length := by omega
              obtain rfl : gk = 0 := by omega
              have HT : Hid (allR (fun k => cellOk D i k) D.length 0 = true) := Lib.hid (by rw [← HK.out]; rfl)
              clear hrow' hcell' HK
              go_wp2
              go_roundg g'
              case measure => omega
              case rel => exact ⟨i + 1, _, by omega, by go_num, rfl, Lib.hid (by rw [← HI.out, allR, HT.out, Bool.true_and])⟩
        · have hin' : ¬ (i : Int) < D.length := by omega
          obtain rfl : gk = 0 := by omega
          clear hrow' hcell'
          go_wp2
          go_ret
          exact ⟨ret_bool (by rw [HS2.out, ← HI.out]; rfl), _, rfl⟩
end Go.Proofs.Ytbkefojepelggaa
