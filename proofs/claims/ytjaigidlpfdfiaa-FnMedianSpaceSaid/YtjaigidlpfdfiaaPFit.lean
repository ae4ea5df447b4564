/- What is proved: spec.PointFits answers. Conditions: those of each contract. -/
import Derived.Test.YtjaigidlpfdfiaaStep
import Derived.Test.YtjaigidlpfdfiaaSplit
namespace Go.Proofs.Ytjaigidlpfdfiaa
open Go.RowKit
def PFit (D : List (List Int)) (xs : List Int) (w : World) (e : Ending) (w' : World) : Prop := ∃ b, e = .returned (.bool b) ∧ (b = true → spB D = true ∧ D.length < 6 ∧ xs.length = D.length) ∧ ∃ m, w' = w.drewN m
set_option maxRecDepth 100000 in
set_option maxHeartbeats 8000000 in
theorem sPointFits_any (A : Option Addr) (cp : Nat) (D : List (List Int)) (B : Option Addr) (cq : Nat) (xs : List Int) (w : World) (h : Mat w A cp D) (hx : Ints w B cq xs) (hb : ∀ i, i < xs.length → 0 ≤ ix xs i ∧ ix xs i ≤ 1000) :
    Calls Try.prog 71 #[.slice A D.length cp, .slice B xs.length cq] w (PFit D xs w) := by
  have hcm := h.2.1
  have hlc := h.1
  unfold maxLen at hcm
  have hcx := hx.2.1
  have hlx := hx.1
  unfold maxLen at hcx
  have HC := Lib.hid (SpaceOk_any A cp D w h)
  cases hs : spB D with
  | false =>
    rw [hs] at HC
    clear hs h hx hb
    go_enter Try.func71, Try.ntmps71
    go_wp2_with fail
    refine (HC.out).mono ?_
    rintro e w1 ⟨rfl, m1, rfl⟩
    go_wp2
    go_ret
    exact ⟨false, rfl, fun q => (by cases q), _, by first | rfl | exact drewN_add _ _ _⟩
  | true =>
  rw [hs] at HC
  by_cases h6 : 6 ≤ D.length
  · have h6' : (6 : Int) ≤ (D.length : Nat) := by omega
    clear hs h hx hb
    go_enter Try.func71, Try.ntmps71
    go_wp2_with fail
    refine (HC.out).mono ?_
    rintro e w1 ⟨rfl, m1, rfl⟩
    go_wp2
    go_ret
    exact ⟨false, rfl, fun q => (by cases q), _, by first | rfl | exact drewN_add _ _ _⟩
  have h6' : ¬ (6 : Int) ≤ (D.length : Nat) := by omega
  by_cases hl : xs.length = D.length
  rotate_left
  · have hl' : ((xs.length : Int) != (D.length : Int)) = true := by simp; omega
    clear hs h hx hb
    go_enter Try.func71, Try.ntmps71
    go_wp2_with fail
    refine (HC.out).mono ?_
    rintro e w1 ⟨rfl, m1, rfl⟩
    go_wp2
    go_ret
    exact ⟨false, rfl, fun q => (by cases q), _, by first | rfl | exact drewN_add _ _ _⟩
  · have HFIN := Lib.hid (show spB D = true ∧ D.length < 6 ∧ xs.length = D.length from ⟨hs, by omega, hl⟩)
    obtain ⟨⟨hn1, hn6⟩, hsq, hcells⟩ := farB_parts (spB_far hs)
    obtain ⟨bk, o, rc, rb, ro, hA, hrow, hlen, hcell, -⟩ := h.square hsq
    obtain rfl := hA (by omega)
    obtain ⟨-, -, b2, o2, hB, hc2⟩ := hx
    obtain rfl := hB (by omega)
    rw [hl] at hc2 hb
    have HROW := Lib.hid hrow
    have HLEN := Lib.hid hlen
    have HCE := Lib.hid hcell
    have HBD := Lib.hid hcells
    have HX := Lib.hid hc2
    have HB := Lib.hid hb
    have hl' : ((D.length : Int) != (D.length : Int)) = false := by simp
    obtain ⟨n, hn⟩ : ∃ n, xs.length = n := ⟨_, rfl⟩
    rw [hn] at hl hlx
    rw [hn]
    subst hl
    clear hs h hb hsq hcells hrow hlen hcell hA hB hc2 hn
    go_enter Try.func71, Try.ntmps71
    go_wp2_with fail
    refine (HC.out).mono ?_
    rintro e w1 ⟨rfl, m1, rfl⟩
    go_wp2
    go_loopg [5] (D.length) (fun g s5 wr => ∃ (k m : Nat), k + g = D.length ∧ s5 = .int .i64 k ∧ wr = w.drewN m ∧ Hid (True))
    case atStart => exact ⟨0, _, by omega, rfl, by first | rfl | exact drewN_0 _ | exact drewN_add _ _ _, Lib.hid (trivial)⟩
    case round =>
      obtain ⟨k, mk, hk, rfl, rfl, Hk⟩ := hrel
      by_cases hink : k < D.length
      · obtain ⟨gk, rfl⟩ : ∃ g', gk = g' + 1 := ⟨gk - 1, by omega⟩
        have hink' : (k : Int) < (D.length : Nat) := by omega
        go_wp2
        go_loopg [6] (D.length) (fun g s6 wr => ∃ (j m : Nat), j + g = D.length ∧ s6 = .int .i64 j ∧ wr = w.drewN m ∧ Hid (True))
        case atStart => exact ⟨0, _, by omega, rfl, by first | rfl | exact drewN_0 _ | exact drewN_add _ _ _, Lib.hid (trivial)⟩
        case round =>
          obtain ⟨j, mj, hj, rfl, rfl, Hj⟩ := hrel
          by_cases hinj : j < D.length
          · obtain ⟨gj, rfl⟩ : ∃ g', gk = g' + 1 := ⟨gk - 1, by omega⟩
            have hinj' : (j : Int) < (D.length : Nat) := by omega
            have r1 := HROW.out k hink
            have hl1 := (HLEN.out k hink).1
            have c1 := HCE.out k hink j hinj
            obtain ⟨p1, q1, -, -⟩ := HBD.out k hink j hinj
            have x1 := HX.out k hink
            have x2 := HX.out j hinj
            obtain ⟨a0, a1⟩ := HB.out k hink
            obtain ⟨b0, b1⟩ := HB.out j hinj
            obtain ⟨X, hX⟩ : ∃ X, ix xs k = X := ⟨_, rfl⟩
            obtain ⟨Y, hY⟩ : ∃ Y, ix xs j = Y := ⟨_, rfl⟩
            obtain ⟨Z, hZ⟩ : ∃ Z, at2 D k j = Z := ⟨_, rfl⟩
            rw [hX] at x1 a0 a1
            rw [hY] at x2 b0 b1
            rw [hZ] at c1 p1 q1
            clear hX hY hZ
            have HIN := Lib.hid (fun W => l1In_any X 1 60 W)
            cases ei : inB X 1 60 with
            | false =>
              rw [ei] at HIN
              clear ei
              go_wp2
              go_big_quiet ((go_at_call 39; exact quiet_add_same (HIN.out _)))
              go_wp2
              go_ret
              exact ⟨false, rfl, fun q => (by cases q), _, by first | rfl | exact drewN_add _ _ _⟩
            | true =>
              rw [ei] at HIN
              clear ei
              by_cases h1 : Z < X - Y
              · have h1d : decide (Z < X - Y) = true := decide_eq_true h1
                go_wp2
                go_big_quiet ((go_at_call 39; exact quiet_add_same (HIN.out _)))
                go_wp2
                go_ret
                exact ⟨false, rfl, fun q => (by cases q), _, by first | rfl | exact drewN_add _ _ _⟩
              · have h1d : decide (Z < X - Y) = false := decide_eq_false h1
                by_cases hkj : k = j
                · have hkj' : ((k : Int) != (j : Int)) = false := by simp; omega
                  clear hkj
                  go_wp2
                  go_big_quiet ((go_at_call 39; exact quiet_add_same (HIN.out _)))
                  go_wp2
                  go_roundg gj
                  case measure => omega
                  case rel => exact ⟨j + 1, _, by omega, by go_num, by first | rfl | exact drewN_0 _ | exact drewN_add _ _ _, Lib.hid (by trivial)⟩
                · have hkj' : ((k : Int) != (j : Int)) = true := by simp; omega
                  clear hkj
                  by_cases h2 : X + Y < Z
                  · have h2d : decide (X + Y < Z) = true := decide_eq_true h2
                    go_wp2
                    go_big_quiet ((go_at_call 39; exact quiet_add_same (HIN.out _)))
                    go_wp2
                    go_ret
                    exact ⟨false, rfl, fun q => (by cases q), _, by first | rfl | exact drewN_add _ _ _⟩
                  · have h2d : decide (X + Y < Z) = false := decide_eq_false h2
                    go_wp2
                    go_big_quiet ((go_at_call 39; exact quiet_add_same (HIN.out _)))
                    go_wp2
                    go_roundg gj
                    case measure => omega
                    case rel => exact ⟨j + 1, _, by omega, by go_num, by first | rfl | exact drewN_0 _ | exact drewN_add _ _ _, Lib.hid (by trivial)⟩
          · have hinj' : ¬ (j : Int) < (D.length : Nat) := by omega
            obtain rfl : gk = 0 := by omega
            go_wp2
            go_roundg gk
            case measure => omega
            case rel => exact ⟨k + 1, _, by omega, by go_num, by first | rfl | exact drewN_0 _ | exact drewN_add _ _ _, Lib.hid (by trivial)⟩
      · have hink' : ¬ (k : Int) < (D.length : Nat) := by omega
        obtain rfl : gk = 0 := by omega
        go_wp2
        go_ret
        exact ⟨true, rfl, fun _ => HFIN.out, _, by first | rfl | exact drewN_add _ _ _⟩
end Go.Proofs.Ytjaigidlpfdfiaa
