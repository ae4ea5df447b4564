/- What is proved: spec.FarOk and spec.SpaceOk return whether rows are distances, a space, for every slice of rows. No condition. -/
import Derived.Test.YtbkefojepelggaaSpace
namespace Go.Proofs.Ytbkefojepelggaa
open Go.RowKit

/-- a number lies between two others -/
def inB (n lo hi : Int) : Bool := decide (lo ≤ n ∧ n ≤ hi)

set_option maxHeartbeats 400000 in
theorem l1In_any (n lo hi : Int) (w : World) : Calls Try.prog 80 #[.int .i64 n, .int .i64 lo, .int .i64 hi] w fun e w' => e = .returned (.bool (inB n lo hi)) ∧ w' = w := by
  have Hd := Lib.hid (show inB n lo hi = decide (lo ≤ n ∧ n ≤ hi) from rfl)
  by_cases h1 : lo ≤ n
  · by_cases h2 : n ≤ hi
    · go_enter Try.func80, Try.ntmps80
      go_wp2
      go_ret
      exact ⟨ret_bool (by rw [Hd.out, decide_eq_true ⟨h1, h2⟩]), rfl⟩
    · go_enter Try.func80, Try.ntmps80
      go_wp2
      go_ret
      exact ⟨ret_bool (by rw [Hd.out, decide_eq_false (by omega)]), rfl⟩
  · go_enter Try.func80, Try.ntmps80
    go_wp2
    go_ret
    exact ⟨ret_bool (by rw [Hd.out, decide_eq_false (by omega)]), rfl⟩

set_option maxHeartbeats 1000000 in
theorem FarOk_any (A : Option Addr) (c : Nat) (D : List (List Int)) (w : World) (h : Mat w A c D) :
    Calls Try.prog 67 #[.slice A D.length c] w fun e w' => e = .returned (.bool (farB D)) ∧ ∃ m, w' = w.drewN m := by
  obtain ⟨hlc, hcm, _⟩ := id h
  unfold maxLen at hcm
  obtain ⟨b, o, R, rc, rb, ro, hA, hrow, hlen, hR, hcell, _⟩ := h.parts
  have Hd := Lib.hid (show farB D = (sizeB D && (sqB D && cellsB D)) from rfl)
  go_enter Try.func67, Try.ntmps67
  go_wp2
  go_loopg [3] (D.length) (fun g s3 wr => ∃ (i m : Nat), i + g = D.length ∧ s3 = .int .i64 i ∧ wr = w.drewN m ∧ Hid (allR (fun i => decide ((row D i).length = D.length)) g i = sqB D))
  case atStart => exact ⟨0, _, by omega, rfl, by first | rfl | exact drewN_0 _ | exact drewN_add _ _ _, Lib.hid (rfl)⟩
  case round =>
    obtain ⟨i, mi, hi, rfl, rfl, Hi⟩ := hrel
    by_cases hini : i < D.length
    · obtain ⟨gi, rfl⟩ : ∃ g', gk = g' + 1 := ⟨gk - 1, by omega⟩
      have hini' : (i : Int) < (D.length : Nat) := by omega
      obtain rfl := hA (by omega)
      have r1 := hrow i hini
      have l1 := hlen i hini
      unfold maxLen at l1
      clear hrow hcell hlen hR
      by_cases hq : (row D i).length = D.length
      · have hq' : (((row D i).length : Int) != (D.length : Int)) = false := by simp [hq]
        have HQ := Lib.hid hq
        clear hq
        go_wp2
        go_roundg gi
        case measure => omega
        case rel => exact ⟨i + 1, _, by omega, by go_num, by first | rfl | exact drewN_0 _ | exact drewN_add _ _ _, Lib.hid (by rw [← Hi.out, allR, decide_eq_true HQ.out, Bool.true_and])⟩
      · have hq' : (((row D i).length : Int) != (D.length : Int)) = true := by simp; omega
        have HQ := Lib.hid hq
        clear hq
        go_wp2
        go_ret
        exact ⟨ret_bool (by rw [Hd.out, ← Hi.out, allR, decide_eq_false HQ.out]; simp), _, rfl⟩
    · have hini' : ¬ (i : Int) < (D.length : Nat) := by omega
      obtain rfl : gk = 0 := by omega
      have hsq : sqB D = true := Hi.out.symm
      have HS2 : Hid (farB D = (sizeB D && cellsB D)) := Lib.hid (by rw [Hd.out, hsq, Bool.true_and])
      have hS := sqB_sq hsq
      have hRs : ∀ k, k < D.length → R k = some ⟨rb k, ro k, none⟩ := fun k hk => hR k hk (by rw [hS k hk]; omega)
      have hrow' : ∀ k, k < D.length → w.cell? ⟨b, o + k, none⟩ = some (.slice (some ⟨rb k, ro k, none⟩) D.length (rc k)) := fun k hk => by rw [hrow k hk, hRs k hk, hS k hk]
      have hcell' : ∀ k, k < D.length → ∀ j, j < D.length → w.cell? ⟨rb k, ro k + j, none⟩ = some (.int .i64 (at2 D k j)) := fun k hk j hj => hcell k hk j (by rw [hS k hk]; exact hj)
      have hsz : sizeB D = inB D.length 1 6 := by rw [Bool.eq_iff_iff]; simp [sizeB, inB]; omega
      clear Hd Hi hsq hS hRs hrow hcell hR hlen
      cases hz : inB D.length 1 6 with
      | false =>
        have HF : Hid (farB D = false) := Lib.hid (by rw [HS2.out, hsz, hz, Bool.false_and])
        clear hsz hrow' hcell'
        go_wp2_with (go_at_call 80; refine (l1In_any _ _ _ _).mono ?_; rintro e w' ⟨rfl, rfl⟩)
        go_ret
        exact ⟨ret_bool HF.out.symm, _, rfl⟩
      | true =>
      have hz2 : 1 ≤ D.length := by have := of_decide_eq_true hz; omega
      have HF : Hid (farB D = cellsB D) := Lib.hid (by rw [HS2.out, hsz, hz, Bool.true_and])
      obtain rfl := hA (by omega)
      clear hsz HS2
      go_wp2_with (go_at_call 80; refine (l1In_any _ _ _ _).mono ?_; rintro e w' ⟨rfl, rfl⟩)
      clear hz
      go_loopg [4] (D.length) (fun g s4 wr => ∃ (i m : Nat), i + g = D.length ∧ s4 = .int .i64 i ∧ wr = w.drewN m ∧ Hid (allR (fun i => allR (fun k => cellOk D i k) D.length 0) g i = cellsB D))
      case atStart => exact ⟨0, _, by omega, rfl, by first | rfl | exact drewN_0 _ | exact drewN_add _ _ _, Lib.hid (rfl)⟩
      case round =>
        obtain ⟨i, mi, hi, rfl, rfl, Hi⟩ := hrel
        by_cases hini : i < D.length
        · obtain ⟨gi, rfl⟩ : ∃ g', gk = g' + 1 := ⟨gk - 1, by omega⟩
          have hini' : (i : Int) < (D.length : Nat) := by omega
          go_wp2
          go_loopg [5] (D.length) (fun g s5 wr => ∃ (k m : Nat), k + g = D.length ∧ s5 = .int .i64 k ∧ wr = w.drewN m ∧ Hid (allR (fun k => cellOk D i k) g k = allR (fun k => cellOk D i k) D.length 0))
          case atStart => exact ⟨0, _, by omega, rfl, by first | rfl | exact drewN_0 _ | exact drewN_add _ _ _, Lib.hid (rfl)⟩
          case round =>
            obtain ⟨k, mk, hk, rfl, rfl, Hk⟩ := hrel
            by_cases hink : k < D.length
            · obtain ⟨gk, rfl⟩ : ∃ g', gk = g' + 1 := ⟨gk - 1, by omega⟩
              have hink' : (k : Int) < (D.length : Nat) := by omega
              have r1 := hrow' i hini
              have r2 := hrow' k hink
              have c1 := hcell' i hini k hink
              have c2 := hcell' k hink i hini
              clear hrow' hcell'
              have Hdef := Lib.hid (show cellOk D i k = decide (0 ≤ at2 D i k ∧ at2 D i k ≤ 60 ∧ at2 D i k = at2 D k i ∧ (at2 D i k = 0 ↔ i = k)) from rfl)
              have HB := Lib.hid (show cellOk D i k = false → farB D = false from fun hb => by rw [HF.out, ← Hi.out, allR, ← Hk.out, allR, hb]; rfl)
              have HN := Lib.hid (show cellOk D i k = true → allR (fun k => cellOk D i k) gk (k + 1) = allR (fun k => cellOk D i k) D.length 0 from fun hb => by rw [← Hk.out, allR, hb]; rfl)
              clear Hi Hk HF
              cases e0 : inB (at2 D i k) 0 60 with
              | false =>
                have H0 := Lib.hid (of_decide_eq_false e0)
                go_wp2
                go_quiet ((go_at_call 80; (first | exact Calls.quiet_of_same (l1In_any _ _ _ _) | exact quiet_add_same (l1In_any _ _ _ _) | exact Calls.quiet_of (l1In_any _ _ _ _) | exact quiet_add (l1In_any _ _ _ _))))
                go_wp2
                go_ret
                exact ⟨ret_bool (HB.out (by rw [Hdef.out]; exact decide_eq_false (fun h => H0.out ⟨h.1, h.2.1⟩))).symm, _, by first | rfl | exact drewN_add _ _ _⟩
              | true =>
              have H0 := Lib.hid (of_decide_eq_true e0)
              by_cases e1 : at2 D i k = at2 D k i
              · have e1' : (at2 D i k != at2 D k i) = false := by simp [e1]
                have E1 := Lib.hid e1
                clear e1
                cases e4 : (at2 D i k == 0) <;> cases e5 : ((i : Int) == (k : Int))
                · have E4 := Lib.hid (show ¬ at2 D i k = 0 by simpa using e4)
                  have E5 := Lib.hid (show ¬ i = k from fun e => by simp [e] at e5)
                  go_wp2
                  go_quiet ((go_at_call 80; (first | exact Calls.quiet_of_same (l1In_any _ _ _ _) | exact quiet_add_same (l1In_any _ _ _ _) | exact Calls.quiet_of (l1In_any _ _ _ _) | exact quiet_add (l1In_any _ _ _ _))))
                  go_wp2
                  go_roundg gk
                  case measure => omega
                  case rel => exact ⟨k + 1, _, by omega, by go_num, by first | rfl | exact drewN_0 _ | exact drewN_add _ _ _, Lib.hid (by exact HN.out (by rw [Hdef.out]; exact decide_eq_true ⟨H0.out.1, H0.out.2, E1.out, fun h => absurd h E4.out, fun h => absurd h E5.out⟩))⟩
                · have E4 := Lib.hid (show ¬ at2 D i k = 0 by simpa using e4)
                  have E5 := Lib.hid (show i = k by have := beq_iff_eq.1 e5; omega)
                  go_wp2
                  go_quiet ((go_at_call 80; (first | exact Calls.quiet_of_same (l1In_any _ _ _ _) | exact quiet_add_same (l1In_any _ _ _ _) | exact Calls.quiet_of (l1In_any _ _ _ _) | exact quiet_add (l1In_any _ _ _ _))))
                  go_wp2
                  go_ret
                  exact ⟨ret_bool (HB.out (by rw [Hdef.out]; exact decide_eq_false (fun h => E4.out (h.2.2.2.2 E5.out)))).symm, _, by first | rfl | exact drewN_add _ _ _⟩
                · have E4 := Lib.hid (show at2 D i k = 0 from beq_iff_eq.1 e4)
                  have E5 := Lib.hid (show ¬ i = k from fun e => by simp [e] at e5)
                  go_wp2
                  go_quiet ((go_at_call 80; (first | exact Calls.quiet_of_same (l1In_any _ _ _ _) | exact quiet_add_same (l1In_any _ _ _ _) | exact Calls.quiet_of (l1In_any _ _ _ _) | exact quiet_add (l1In_any _ _ _ _))))
                  go_wp2
                  go_ret
                  exact ⟨ret_bool (HB.out (by rw [Hdef.out]; exact decide_eq_false (fun h => E5.out (h.2.2.2.1 E4.out)))).symm, _, by first | rfl | exact drewN_add _ _ _⟩
                · have E4 := Lib.hid (show at2 D i k = 0 from beq_iff_eq.1 e4)
                  have E5 := Lib.hid (show i = k by have := beq_iff_eq.1 e5; omega)
                  go_wp2
                  go_quiet ((go_at_call 80; (first | exact Calls.quiet_of_same (l1In_any _ _ _ _) | exact quiet_add_same (l1In_any _ _ _ _) | exact Calls.quiet_of (l1In_any _ _ _ _) | exact quiet_add (l1In_any _ _ _ _))))
                  go_wp2
                  go_roundg gk
                  case measure => omega
                  case rel => exact ⟨k + 1, _, by omega, by go_num, by first | rfl | exact drewN_0 _ | exact drewN_add _ _ _, Lib.hid (by exact HN.out (by rw [Hdef.out]; exact decide_eq_true ⟨H0.out.1, H0.out.2, E1.out, fun _ => E5.out, fun _ => E4.out⟩))⟩
              · have e1' : (at2 D i k != at2 D k i) = true := by simp [e1]
                have E1 := Lib.hid e1
                clear e1
                go_wp2
                go_quiet ((go_at_call 80; (first | exact Calls.quiet_of_same (l1In_any _ _ _ _) | exact quiet_add_same (l1In_any _ _ _ _) | exact Calls.quiet_of (l1In_any _ _ _ _) | exact quiet_add (l1In_any _ _ _ _))))
                go_wp2
                go_ret
                exact ⟨ret_bool (HB.out (by rw [Hdef.out]; exact decide_eq_false (fun h => E1.out h.2.2.1))).symm, _, by first | rfl | exact drewN_add _ _ _⟩
            · have hink' : ¬ (k : Int) < (D.length : Nat) := by omega
              obtain rfl : gk = 0 := by omega
              have HT : Hid (allR (fun k => cellOk D i k) D.length 0 = true) := Lib.hid (by rw [← Hk.out]; rfl)
              clear hrow' hcell' Hk
              go_wp2
              go_roundg gi
              case measure => omega
              case rel => exact ⟨i + 1, _, by omega, by go_num, by first | rfl | exact drewN_0 _ | exact drewN_add _ _ _, Lib.hid (by rw [← Hi.out, allR, HT.out, Bool.true_and])⟩
        · have hini' : ¬ (i : Int) < (D.length : Nat) := by omega
          obtain rfl : gk = 0 := by omega
          clear hrow' hcell'
          go_wp2
          go_ret
          exact ⟨ret_bool (by rw [HF.out, ← Hi.out]; rfl), _, rfl⟩

set_option maxHeartbeats 1000000 in
theorem SpaceOk_any (A : Option Addr) (c : Nat) (D : List (List Int)) (w : World) (h : Mat w A c D) :
    Calls Try.prog 37 #[.slice A D.length c] w fun e w' => e = .returned (.bool (spB D)) ∧ ∃ m, w' = w.drewN m := by
  obtain ⟨hlc, hcm, _⟩ := id h
  unfold maxLen at hcm
  cases hf : farB D with
  | false =>
    have HF : Hid (spB D = false) := Lib.hid (by simp [spB, hf])
    have HC := Lib.hid (FarOk_any A c D w h)
    rw [hf] at HC
    clear hf
    go_enter Try.func37, Try.ntmps37
    go_wp2_with (go_at_call 67; refine HC.out.mono ?_; rintro e w' ⟨rfl, m0, rfl⟩)
    go_ret
    exact ⟨ret_bool HF.out.symm, _, rfl⟩
  | true =>
    have HF : Hid (spB D = triB D) := Lib.hid (by simp [spB, hf])
    have HC := Lib.hid (FarOk_any A c D w h)
    rw [hf] at HC
    obtain ⟨⟨hn1, hn6⟩, hsq, hcells⟩ := farB_parts hf
    clear hf
    obtain ⟨b, o, rc, rb, ro, hA, hrow, _, hcell, _⟩ := h.square hsq
    obtain rfl := hA (by omega)
    go_enter Try.func37, Try.ntmps37
    go_wp2_with (go_at_call 67; refine HC.out.mono ?_; rintro e w' ⟨rfl, m0, rfl⟩)
    go_loopg [3] (D.length) (fun g s3 wr => ∃ (i m : Nat), i + g = D.length ∧ s3 = .int .i64 i ∧ wr = w.drewN m ∧ Hid (allR (fun i => allR (fun k => allR (fun j => tri D i k j) D.length 0) D.length 0) g i = triB D))
    case atStart => exact ⟨0, _, by omega, rfl, by first | rfl | exact drewN_0 _ | exact drewN_add _ _ _, Lib.hid (rfl)⟩
    case round =>
      obtain ⟨i, mi, hi, rfl, rfl, Hi⟩ := hrel
      by_cases hini : i < D.length
      · obtain ⟨gi, rfl⟩ : ∃ g', gk = g' + 1 := ⟨gk - 1, by omega⟩
        have hini' : (i : Int) < (D.length : Nat) := by omega
        go_wp2
        go_loopg [4] (D.length) (fun g s4 wr => ∃ (k m : Nat), k + g = D.length ∧ s4 = .int .i64 k ∧ wr = w.drewN m ∧ Hid (allR (fun k => allR (fun j => tri D i k j) D.length 0) g k = allR (fun k => allR (fun j => tri D i k j) D.length 0) D.length 0))
        case atStart => exact ⟨0, _, by omega, rfl, by first | rfl | exact drewN_0 _ | exact drewN_add _ _ _, Lib.hid (rfl)⟩
        case round =>
          obtain ⟨k, mk, hk, rfl, rfl, Hk⟩ := hrel
          by_cases hink : k < D.length
          · obtain ⟨gk, rfl⟩ : ∃ g', gk = g' + 1 := ⟨gk - 1, by omega⟩
            have hink' : (k : Int) < (D.length : Nat) := by omega
            go_wp2
            go_loopg [5] (D.length) (fun g s5 wr => ∃ (j m : Nat), j + g = D.length ∧ s5 = .int .i64 j ∧ wr = w.drewN m ∧ Hid (allR (fun j => tri D i k j) g j = allR (fun j => tri D i k j) D.length 0))
            case atStart => exact ⟨0, _, by omega, rfl, by first | rfl | exact drewN_0 _ | exact drewN_add _ _ _, Lib.hid (rfl)⟩
            case round =>
              obtain ⟨j, mj, hj, rfl, rfl, Hj⟩ := hrel
              by_cases hinj : j < D.length
              · obtain ⟨gj, rfl⟩ : ∃ g', gk = g' + 1 := ⟨gk - 1, by omega⟩
                have hinj' : (j : Int) < (D.length : Nat) := by omega
                have r1 := hrow i hini
                have r2 := hrow j hinj
                have c1 := hcell i hini k hink
                have c2 := hcell i hini j hinj
                have c3 := hcell j hinj k hink
                obtain ⟨b1, b1', _, _⟩ := hcells i hini k hink
                obtain ⟨b2, b2', _, _⟩ := hcells i hini j hinj
                obtain ⟨b3, b3', _, _⟩ := hcells j hinj k hink
                clear hrow hcell hcells
                by_cases ht : at2 D i k ≤ at2 D i j + at2 D j k
                · have HT : Hid (tri D i k j = true) := Lib.hid (decide_eq_true ht)
                  go_wp2
                  go_quiet (fail)
                  go_wp2
                  go_roundg gj
                  case measure => omega
                  case rel => exact ⟨j + 1, _, by omega, by go_num, by first | rfl | exact drewN_0 _ | exact drewN_add _ _ _, Lib.hid (by rw [← Hj.out, allR, HT.out, Bool.true_and])⟩
                · have HT : Hid (tri D i k j = false) := Lib.hid (decide_eq_false ht)
                  go_wp2
                  go_quiet (fail)
                  go_wp2
                  go_ret
                  exact ⟨ret_bool (by rw [HF.out, ← Hi.out, allR, ← Hk.out, allR, ← Hj.out, allR, HT.out]; rfl), _, by first | rfl | exact drewN_add _ _ _⟩
              · have hinj' : ¬ (j : Int) < (D.length : Nat) := by omega
                obtain rfl : gk = 0 := by omega
                have HT : Hid (allR (fun j => tri D i k j) D.length 0 = true) := Lib.hid (by rw [← Hj.out]; rfl)
                clear hrow hcell hcells Hj
                go_wp2
                go_roundg gk
                case measure => omega
                case rel => exact ⟨k + 1, _, by omega, by go_num, by first | rfl | exact drewN_0 _ | exact drewN_add _ _ _, Lib.hid (by rw [← Hk.out, allR, HT.out, Bool.true_and])⟩
          · have hink' : ¬ (k : Int) < (D.length : Nat) := by omega
            obtain rfl : gk = 0 := by omega
            have HT : Hid (allR (fun k => allR (fun j => tri D i k j) D.length 0) D.length 0 = true) := Lib.hid (by rw [← Hk.out]; rfl)
            clear hrow hcell hcells Hk
            go_wp2
            go_roundg gi
            case measure => omega
            case rel => exact ⟨i + 1, _, by omega, by go_num, by first | rfl | exact drewN_0 _ | exact drewN_add _ _ _, Lib.hid (by rw [← Hi.out, allR, HT.out, Bool.true_and])⟩
      · have hini' : ¬ (i : Int) < (D.length : Nat) := by omega
        obtain rfl : gk = 0 := by omega
        clear hrow hcell hcells
        go_wp2
        go_ret
        exact ⟨ret_bool (by rw [HF.out, ← Hi.out]; rfl), _, rfl⟩
end Go.Proofs.Ytbkefojepelggaa
