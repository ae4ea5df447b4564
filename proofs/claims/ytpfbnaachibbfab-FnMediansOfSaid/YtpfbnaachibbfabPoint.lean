/- What is proved: impl.hasPoint, slices.Max, impl.sumFrom, impl.SumFrom, spec.SumFrom return what is said. Conditions: those of each contract. -/
import Derived.Test.YtpfbnaachibbfabWeights
namespace Go.Proofs.Ytpfbnaachibbfab
open Go.RowKit

theorem b_dd {p q : Prop} [Decidable p] [Decidable q] (h : p ↔ q) : decide p = decide q := by rw [Bool.eq_iff_iff, decide_eq_true_iff, decide_eq_true_iff]; exact h
theorem b_td {q : Prop} [Decidable q] (h : q) : true = decide q := (decide_eq_true h).symm
theorem b_fd {q : Prop} [Decidable q] (h : ¬ q) : false = decide q := (decide_eq_false h).symm

/-- a space, and a point of it -/
def pointB (D : List (List Int)) (p : Int) : Bool := spB D && decide (0 ≤ p ∧ p < D.length)
theorem pointB_parts {D : List (List Int)} {p : Int} (h : pointB D p = true) : spB D = true ∧ ∃ k : Nat, p = k ∧ k < D.length := by
  unfold pointB at h
  simp only [Bool.and_eq_true, decide_eq_true_eq] at h
  exact ⟨h.1, p.toNat, by omega, by omega⟩

set_option maxHeartbeats 1000000 in
theorem hasPoint_any (A : Option Addr) (c : Nat) (D : List (List Int)) (p : Int) (w : World) (h : Mat w A c D) :
    Calls Try.prog 90 #[.slice A D.length c, .int .i64 p] w fun e w' => e = .returned (.bool (pointB D p)) ∧ ∃ m, w' = w.drewN m := by
  have HC := Lib.hid (isSpace_any A c D w h)
  have Hd := Lib.hid (show pointB D p = (spB D && decide (0 ≤ p ∧ p < D.length)) from rfl)
  cases hs : spB D with
  | false =>
    rw [hs] at HC
    have HF := Lib.hid (show pointB D p = false by rw [Hd.out, hs]; rfl)
    clear hs
    go_enter Try.func90, Try.ntmps90
    go_wp2_with (go_at_call 95; refine HC.out.mono ?_; rintro e w' ⟨rfl, m0, rfl⟩)
    go_ret
    exact ⟨ret_bool HF.out.symm, _, rfl⟩
  | true =>
    rw [hs] at HC
    have HF := Lib.hid (show pointB D p = decide (0 ≤ p ∧ p < D.length) by rw [Hd.out, hs]; rfl)
    clear hs Hd
    by_cases h1 : 0 ≤ p
    · by_cases h2 : p < D.length
      · go_enter Try.func90, Try.ntmps90
        go_wp2_with (go_at_call 95; refine HC.out.mono ?_; rintro e w' ⟨rfl, m0, rfl⟩)
        go_ret
        exact ⟨ret_bool (by rw [HF.out]; (first | exact b_td (by omega) | exact b_fd (by omega) | exact b_dd (by omega))), _, rfl⟩
      · go_enter Try.func90, Try.ntmps90
        go_wp2_with (go_at_call 95; refine HC.out.mono ?_; rintro e w' ⟨rfl, m0, rfl⟩)
        go_ret
        exact ⟨ret_bool (by rw [HF.out]; (first | exact b_td (by omega) | exact b_fd (by omega) | exact b_dd (by omega))), _, rfl⟩
    · go_enter Try.func90, Try.ntmps90
      go_wp2_with (go_at_call 95; refine HC.out.mono ?_; rintro e w' ⟨rfl, m0, rfl⟩)
      go_ret
      exact ⟨ret_bool (by rw [HF.out]; (first | exact b_td (by omega) | exact b_fd (by omega) | exact b_dd (by omega))), _, rfl⟩

/-- the greatest of numbers -/
def maxI (xs : List Int) : Int := itR (fun k s => max s (ix xs k)) (xs.length - 1) 1 (ix xs 0)

set_option maxHeartbeats 1000000 in
theorem slicesMax_any (A : Option Addr) (c : Nat) (xs : List Int) (w : World) (h : Ints w A c xs) (h0 : 0 < xs.length) :
    Calls Try.prog 102 #[.slice A xs.length c] w fun e w' => e = .returned (.int .i64 (maxI xs)) ∧ ∃ m, w' = w.drewN m := by
  obtain ⟨h1, h2, b, o, hA, hc⟩ := h
  unfold maxLen at h2
  obtain rfl := hA h0
  have h0' : ¬ (xs.length : Int) < 1 := by omega
  have c0 := hc 0 h0
  simp only [Nat.add_zero] at c0
  go_enter Try.func102, Try.ntmps102
  go_wp2
  clear c0
  go_loopg [3, 4] (xs.length - 1) (fun g s3 s4 wr => ∃ (i m : Nat) (s : Int), i + g = xs.length ∧ 1 ≤ i ∧ s3 = .int .i64 s ∧ s4 = .int .i64 i ∧ wr = w.drewN m ∧ Hid (itR (fun k s => max s (ix xs k)) g i s = maxI xs))
  case atStart => exact ⟨1, 0, _, by omega, by omega, rfl, rfl, rfl, Lib.hid rfl⟩
  case round =>
    obtain ⟨i, m, s, hi, hi1, rfl, rfl, rfl, Hi⟩ := hrel
    by_cases hini : i < xs.length
    · obtain ⟨gi, rfl⟩ : ∃ g', gk = g' + 1 := ⟨gk - 1, by omega⟩
      have hini' : (i : Int) < (xs.length : Nat) := by omega
      have c1 := hc i hini
      clear hc
      by_cases hle : ix xs i ≤ s
      · have HE := Lib.hid (Int.max_eq_left hle)
        go_wp2
        go_roundg gi
        case measure => omega
        case rel => exact ⟨i + 1, _, _, by omega, by omega, rfl, by go_num, rfl, Lib.hid (by rw [← Hi.out, itR, HE.out])⟩
      · have HE := Lib.hid (Int.max_eq_right (show s ≤ ix xs i by omega))
        go_wp2
        go_roundg gi
        case measure => omega
        case rel => exact ⟨i + 1, _, _, by omega, by omega, rfl, by go_num, rfl, Lib.hid (by rw [← Hi.out, itR, HE.out])⟩
    · have hini' : ¬ (i : Int) < (xs.length : Nat) := by omega
      obtain rfl : gk = 0 := by omega
      clear hc
      go_wp2
      go_ret
      exact ⟨ret_int (by rw [← Hi.out]; rfl), _, rfl⟩

/-- the sum of the distances from a point, each times a weight -/
def sumP (D : List (List Int)) (ws : List Int) (p : Nat) : Int := itR (fun k s => s + ix ws k * at2 D p k) ws.length 0 0
def sumV (D : List (List Int)) (ws : List Int) (p : Int) : Int := if weightsB D ws = true ∧ pointB D p = true then sumP D ws p.toNat else -1
theorem wtB_all {ws : List Int} (h : wtB ws = true) : ∀ i, i < ws.length → 0 ≤ ix ws i ∧ ix ws i ≤ 9 := fun i hi => of_decide_eq_true ((allR_all _ _).1 h i hi)
theorem weightsB_parts {D : List (List Int)} {ws : List Int} (h : weightsB D ws = true) : spB D = true ∧ ws.length = D.length ∧ ∀ i, i < ws.length → 0 ≤ ix ws i ∧ ix ws i ≤ 9 := by
  unfold weightsB at h
  simp only [Bool.and_eq_true, decide_eq_true_eq] at h
  exact ⟨h.2.1, h.2.2, wtB_all h.1⟩
theorem mul_bd {x y : Int} (h1 : 0 ≤ x) (h2 : x ≤ 9) (h3 : 0 ≤ y) (h4 : y ≤ 60) : 0 ≤ x * y ∧ x * y ≤ 540 := by
  have a := Int.mul_nonneg h1 h3
  have b : x * y ≤ 9 * 60 := Int.mul_le_mul h2 h4 h3 (by decide)
  omega

set_option maxHeartbeats 1000000 in
theorem sumFrom_any (A : Option Addr) (c : Nat) (D : List (List Int)) (B : Option Addr) (d : Nat) (ws : List Int) (p : Nat) (w : World) (h : Mat w A c D) (hw : Ints w B d ws) (hs : spB D = true) (hl : ws.length ≤ D.length)
    (hwt : ∀ i, i < ws.length → 0 ≤ ix ws i ∧ ix ws i ≤ 9) (hp : p < D.length) :
    Calls Try.prog 112 #[.slice A D.length c, .slice B ws.length d, .int .i64 p] w fun e w' => e = .returned (.int .i64 (sumP D ws p)) ∧ ∃ m, w' = w.drewN m := by
  obtain ⟨⟨hn1, hn6⟩, hsq, hcells⟩ := farB_parts (spB_far hs)
  clear hs
  obtain ⟨b, o, rc, rb, ro, hA, hrow, hlen, hcell, _⟩ := h.square hsq
  obtain rfl := hA (by omega)
  obtain ⟨h1, h2, bw, ow, hB, hwc⟩ := hw
  unfold maxLen at h2
  have hp' : (p : Int) < (D.length : Nat) := by omega
  go_enter Try.func112, Try.ntmps112
  go_wp2
  go_loopg [12, 7] (ws.length) (fun g s12 s7 wr => ∃ (i m : Nat) (s : Int), i + g = ws.length ∧ s12 = .int .i64 i ∧ s7 = .int .i64 s ∧ wr = w.drewN m ∧ 0 ≤ s ∧ s ≤ 540 * i ∧ Hid (itR (fun k s => s + ix ws k * at2 D p k) g i s = sumP D ws p))
  case atStart => exact ⟨0, _, _, by omega, rfl, rfl, by first | rfl | exact drewN_0 _ | exact drewN_add _ _ _, by omega, by omega, Lib.hid (rfl)⟩
  case round =>
    obtain ⟨i, mi, s, hi, rfl, rfl, rfl, hs0, hs1, Hi⟩ := hrel
    by_cases hini : i < ws.length
    · obtain ⟨gi, rfl⟩ : ∃ g', gk = g' + 1 := ⟨gk - 1, by omega⟩
      have hini' : (i : Int) < (ws.length : Nat) := by omega
      obtain rfl := hB (by omega)
      have r1 := hrow p hp
      have c1 := hwc i hini
      have c2 := hcell p hp i (by omega)
      obtain ⟨q1, q2, -, -⟩ := hcells p hp i (by omega)
      obtain ⟨q3, q4⟩ := hwt i hini
      have hin2 : (i : Int) < (D.length : Nat) := by omega
      obtain ⟨q5, q6⟩ := mul_bd q3 q4 q1 q2
      clear hrow hcell hcells hlen hwc hwt
      go_wp2
      go_roundg gi
      case measure => omega
      case rel => exact ⟨i + 1, _, s + ix ws i * at2 D p i, by omega, by go_num, by first | rfl | go_num, by first | rfl | exact drewN_0 _ | exact drewN_add _ _ _, by omega, by omega, Lib.hid (by rw [← Hi.out]; rfl)⟩
    · have hini' : ¬ (i : Int) < (ws.length : Nat) := by omega
      obtain rfl : gk = 0 := by omega
      clear hrow hcell hcells hlen hwc hwt
      go_wp2
      go_ret
      exact ⟨ret_int (by rw [← Hi.out]; rfl), _, rfl⟩

set_option maxHeartbeats 1000000 in
theorem iSumFrom_any (A : Option Addr) (c : Nat) (D : List (List Int)) (B : Option Addr) (d : Nat) (ws : List Int) (p : Int) (w : World) (h : Mat w A c D) (hw : Ints w B d ws) :
    Calls Try.prog 36 #[.slice A D.length c, .slice B ws.length d, .int .i64 p] w fun e w' => e = .returned (.int .i64 (sumV D ws p)) ∧ ∃ m, w' = w.drewN m := by
  have HM := Lib.hid h
  have HI := Lib.hid hw
  have Hd := Lib.hid (show sumV D ws p = if weightsB D ws = true ∧ pointB D p = true then sumP D ws p.toNat else -1 from rfl)
  have HW := Lib.hid (fun W (k : Mat W A c D) (k2 : Ints W B d ws) => areWeights_any A c D B d ws W k k2)
  have HP := Lib.hid (fun W (k : Mat W A c D) => hasPoint_any A c D p W k)
  clear h hw
  cases e1 : weightsB D ws with
  | false =>
    have HF := Lib.hid (show sumV D ws p = -1 by rw [Hd.out, e1]; rfl)
    rw [e1] at HW
    clear e1
    go_enter Try.func36, Try.ntmps36
    go_wp2_with fail
    refine (HW.out _ (HM.out.ext (by repeat (first | exact Ext.refl _ | assumption | apply Ext.drewN' | apply Ext.alloc' | refine Ext.trans ?_ (by assumption)))) (HI.out.ext (by repeat (first | exact Ext.refl _ | assumption | apply Ext.drewN' | apply Ext.alloc' | refine Ext.trans ?_ (by assumption))))).mono ?_
    rintro e w1 ⟨rfl, m1, rfl⟩
    go_wp2
    go_ret
    exact ⟨ret_int HF.out.symm, _, rfl⟩
  | true =>
    obtain ⟨hs, hl, hwt⟩ := weightsB_parts e1
    cases e2 : pointB D p with
    | false =>
      have HF := Lib.hid (show sumV D ws p = -1 by rw [Hd.out, e1, e2]; rfl)
      rw [e1] at HW
      rw [e2] at HP
      clear e1 e2 hs hl hwt
      go_enter Try.func36, Try.ntmps36
      go_wp2_with fail
      refine (HW.out _ (HM.out.ext (by repeat (first | exact Ext.refl _ | assumption | apply Ext.drewN' | apply Ext.alloc' | refine Ext.trans ?_ (by assumption)))) (HI.out.ext (by repeat (first | exact Ext.refl _ | assumption | apply Ext.drewN' | apply Ext.alloc' | refine Ext.trans ?_ (by assumption))))).mono ?_
      rintro e w1 ⟨rfl, m1, rfl⟩
      go_wp2_with fail
      refine (HP.out _ (HM.out.ext (by repeat (first | exact Ext.refl _ | assumption | apply Ext.drewN' | apply Ext.alloc' | refine Ext.trans ?_ (by assumption))))).mono ?_
      rintro e w2 ⟨rfl, m2, rfl⟩
      go_wp2
      go_ret
      exact ⟨ret_int HF.out.symm, _, by first | rfl | exact drewN_add _ _ _⟩
    | true =>
      obtain ⟨_, k, rfl, hk⟩ := pointB_parts e2
      have HF := Lib.hid (show sumV D ws k = sumP D ws k by rw [Hd.out, e1, e2]; rfl)
      have HS := Lib.hid (fun W (k1 : Mat W A c D) (k2 : Ints W B d ws) => sumFrom_any A c D B d ws k W k1 k2 hs (by omega) hwt hk)
      rw [e1] at HW
      rw [e2] at HP
      clear e1 e2 hs hl hwt
      go_enter Try.func36, Try.ntmps36
      go_wp2_with fail
      refine (HW.out _ (HM.out.ext (by repeat (first | exact Ext.refl _ | assumption | apply Ext.drewN' | apply Ext.alloc' | refine Ext.trans ?_ (by assumption)))) (HI.out.ext (by repeat (first | exact Ext.refl _ | assumption | apply Ext.drewN' | apply Ext.alloc' | refine Ext.trans ?_ (by assumption))))).mono ?_
      rintro e w1 ⟨rfl, m1, rfl⟩
      go_wp2_with fail
      refine (HP.out _ (HM.out.ext (by repeat (first | exact Ext.refl _ | assumption | apply Ext.drewN' | apply Ext.alloc' | refine Ext.trans ?_ (by assumption))))).mono ?_
      rintro e w2 ⟨rfl, m2, rfl⟩
      go_wp2_with fail
      refine (HS.out _ (HM.out.ext (by repeat (first | exact Ext.refl _ | assumption | apply Ext.drewN' | apply Ext.alloc' | refine Ext.trans ?_ (by assumption)))) (HI.out.ext (by repeat (first | exact Ext.refl _ | assumption | apply Ext.drewN' | apply Ext.alloc' | refine Ext.trans ?_ (by assumption))))).mono ?_
      rintro e w3 ⟨rfl, m3, rfl⟩
      go_wp2
      go_ret
      exact ⟨ret_int HF.out.symm, _, by first | rfl | exact drewN_add _ _ _⟩

set_option maxHeartbeats 1000000 in
theorem sSumFrom_any (A : Option Addr) (c : Nat) (D : List (List Int)) (B : Option Addr) (d : Nat) (ws : List Int) (p : Int) (w : World) (h : Mat w A c D) (hw : Ints w B d ws) :
    Calls Try.prog 111 #[.slice A D.length c, .slice B ws.length d, .int .i64 p] w fun e w' => e = .returned (.int .i64 (sumV D ws p)) ∧ ∃ m, w' = w.drewN m := by
  have HM := Lib.hid h
  have HI := Lib.hid hw
  have hcm := h.2.1
  have hlc := h.1
  unfold maxLen at hcm
  have Hd := Lib.hid (show sumV D ws p = if weightsB D ws = true ∧ pointB D p = true then sumP D ws p.toNat else -1 from rfl)
  have HW := Lib.hid (fun W (k : Mat W A c D) (k2 : Ints W B d ws) => sWeightsOk_any A c D B d ws W k k2)
  clear hw
  cases e1 : weightsB D ws with
  | false =>
    have HF := Lib.hid (show sumV D ws p = -1 by rw [Hd.out, e1]; rfl)
    rw [e1] at HW
    clear e1
    go_enter Try.func111, Try.ntmps111
    go_wp2_with fail
    refine (HW.out _ (HM.out.ext (by repeat (first | exact Ext.refl _ | assumption | apply Ext.drewN' | apply Ext.alloc' | refine Ext.trans ?_ (by assumption)))) (HI.out.ext (by repeat (first | exact Ext.refl _ | assumption | apply Ext.drewN' | apply Ext.alloc' | refine Ext.trans ?_ (by assumption))))).mono ?_
    rintro e w1 ⟨rfl, m1, rfl⟩
    go_wp2
    go_ret
    exact ⟨ret_int HF.out.symm, _, rfl⟩
  | true =>
    obtain ⟨hs, hl, hwt⟩ := weightsB_parts e1
    cases e2 : inB p 0 (D.length - 1) with
    | false =>
      have e3 : pointB D p = false := by
        have := of_decide_eq_false e2
        unfold pointB; rw [hs, Bool.true_and]; exact decide_eq_false (by omega)
      have HF := Lib.hid (show sumV D ws p = -1 by rw [Hd.out, e1, e3]; rfl)
      rw [e1] at HW
      clear e1 e3 hs hl hwt
      go_enter Try.func111, Try.ntmps111
      go_wp2_with fail
      refine (HW.out _ (HM.out.ext (by repeat (first | exact Ext.refl _ | assumption | apply Ext.drewN' | apply Ext.alloc' | refine Ext.trans ?_ (by assumption)))) (HI.out.ext (by repeat (first | exact Ext.refl _ | assumption | apply Ext.drewN' | apply Ext.alloc' | refine Ext.trans ?_ (by assumption))))).mono ?_
      rintro e w1 ⟨rfl, m1, rfl⟩
      go_wp2_with fail
      refine (l1In_any _ _ _ _).mono ?_
      rintro e w2 ⟨rfl, rfl⟩
      go_wp2
      go_ret
      exact ⟨ret_int HF.out.symm, _, by first | rfl | exact drewN_add _ _ _⟩
    | true =>
      have e3 : pointB D p = true := by
        have := of_decide_eq_true e2
        unfold pointB; rw [hs, Bool.true_and]; exact decide_eq_true (by omega)
      obtain ⟨_, q, rfl, hq⟩ := pointB_parts e3
      have HF := Lib.hid (show sumV D ws q = sumP D ws q by rw [Hd.out, e1, e3]; rfl)
      have HL := Lib.hid hl
      have hl1 : ws.length ≤ D.length := by omega
      have hl2 : D.length ≤ ws.length := by omega
      have HS0 := Lib.hid (show sumP D ws q = itR (fun k s => s + ix ws k * at2 D q k) D.length 0 0 by unfold sumP; rw [hl])
      rw [e1] at HW
      obtain ⟨⟨hn1, hn6⟩, hsq, hcells⟩ := farB_parts (spB_far hs)
      obtain ⟨b, o, rc, rb, ro, hA, hrow, hlen, hcell, _⟩ := h.square hsq
      obtain rfl := hA (by omega)
      obtain ⟨k1, k2, bw, ow, hB, hwc⟩ := HI.out
      unfold maxLen at k2
      have hq' : (q : Int) < (D.length : Nat) := by omega
      clear e1 e3 hs hl
      go_enter Try.func111, Try.ntmps111
      go_wp2_with fail
      refine (HW.out _ (HM.out.ext (by repeat (first | exact Ext.refl _ | assumption | apply Ext.drewN' | apply Ext.alloc' | refine Ext.trans ?_ (by assumption)))) (HI.out.ext (by repeat (first | exact Ext.refl _ | assumption | apply Ext.drewN' | apply Ext.alloc' | refine Ext.trans ?_ (by assumption))))).mono ?_
      rintro e w1 ⟨rfl, m1, rfl⟩
      go_wp2_with fail
      refine (l1In_any _ _ _ _).mono ?_
      rintro e w2 ⟨rfl, rfl⟩
      go_wp2
      clear e2
      go_loopg [8, 7] (D.length) (fun g s8 s7 wr => ∃ (i m : Nat) (s : Int), i + g = D.length ∧ s8 = .int .i64 i ∧ s7 = .int .i64 s ∧ wr = w.drewN m ∧ 0 ≤ s ∧ s ≤ 540 * i ∧ Hid (itR (fun k s => s + ix ws k * at2 D q k) g i s = sumP D ws q))
      case atStart => exact ⟨0, _, _, by omega, rfl, rfl, by first | rfl | exact drewN_0 _ | exact drewN_add _ _ _, by omega, by omega, Lib.hid (HS0.out.symm)⟩
      case round =>
        obtain ⟨i, mi, s, hi, rfl, rfl, rfl, hs0, hs1, Hi⟩ := hrel
        by_cases hini : i < D.length
        · obtain ⟨gi, rfl⟩ : ∃ g', gk = g' + 1 := ⟨gk - 1, by omega⟩
          have hini' : (i : Int) < (D.length : Nat) := by omega
          obtain rfl := hB (by omega)
          have r1 := hrow q hq
          have c1 := hwc i (by omega)
          have c2 := hcell q hq i (by omega)
          obtain ⟨q1, q2, -, -⟩ := hcells q hq i (by omega)
          obtain ⟨q3, q4⟩ := hwt i (by omega)
          have hin2 : (i : Int) < (ws.length : Nat) := by omega
          obtain ⟨q5, q6⟩ := mul_bd q3 q4 q1 q2
          clear hrow hcell hcells hlen hwc hwt
          go_wp2
          go_quiet (fail)
          go_wp2
          go_roundg gi
          case measure => omega
          case rel => exact ⟨i + 1, _, s + ix ws i * at2 D q i, by omega, by go_num, by first | rfl | go_num, by first | rfl | exact drewN_0 _ | exact drewN_add _ _ _, by omega, by omega, Lib.hid (by rw [← Hi.out]; rfl)⟩
        · have hini' : ¬ (i : Int) < (D.length : Nat) := by omega
          obtain rfl : gk = 0 := by omega
          clear hrow hcell hcells hlen hwc hwt
          go_wp2
          go_ret
          exact ⟨ret_int (by rw [HF.out, ← Hi.out]; rfl), _, by first | rfl | exact drewN_add _ _ _⟩
end Go.Proofs.Ytpfbnaachibbfab
