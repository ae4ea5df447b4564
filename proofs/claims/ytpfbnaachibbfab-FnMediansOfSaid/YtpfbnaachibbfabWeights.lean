/- What is proved: impl.WeightsOk and spec.WeightsOk return whether weights fit a space. No condition. -/
import Derived.Test.YtpfbnaachibbfabSplit
namespace Go.Proofs.Ytpfbnaachibbfab
open Go.RowKit

def wtB (ws : List Int) : Bool := allR (fun i => inB (ix ws i) 0 9) ws.length 0
/-- there is a weight for each point of a space -/
def weightsB (D : List (List Int)) (ws : List Int) : Bool := wtB ws && (spB D && decide (ws.length = D.length))

set_option maxHeartbeats 1000000 in
theorem areWeights_any (A : Option Addr) (c : Nat) (D : List (List Int)) (B : Option Addr) (d : Nat) (ws : List Int) (w : World) (h : Mat w A c D) (hw : Ints w B d ws) :
    Calls Try.prog 108 #[.slice A D.length c, .slice B ws.length d] w fun e w' => e = .returned (.bool (weightsB D ws)) ∧ ∃ m, w' = w.drewN m := by
  have HC := Lib.hid (fun W (k : Mat W A c D) => isSpace_any A c D W k)
  have HM := Lib.hid h
  obtain ⟨h1, h2, b, o, hB, hcell⟩ := hw
  obtain ⟨g1, g2, _⟩ := h
  unfold maxLen at h2 g2
  have Hd := Lib.hid (show weightsB D ws = (wtB ws && (spB D && decide (ws.length = D.length))) from rfl)
  go_enter Try.func108, Try.ntmps108
  go_wp2
  go_loopg [9] (ws.length) (fun g s9 wr => ∃ (i m : Nat), i + g = ws.length ∧ s9 = .int .i64 i ∧ wr = w.drewN m ∧ Hid (allR (fun i => inB (ix ws i) 0 9) g i = wtB ws))
  case atStart => exact ⟨0, _, by omega, rfl, by first | rfl | exact drewN_0 _ | exact drewN_add _ _ _, Lib.hid (rfl)⟩
  case round =>
    obtain ⟨i, mi, hi, rfl, rfl, Hi⟩ := hrel
    by_cases hini : i < ws.length
    · obtain ⟨gi, rfl⟩ : ∃ g', gk = g' + 1 := ⟨gk - 1, by omega⟩
      have hini' : (i : Int) < (ws.length : Nat) := by omega
      obtain rfl := hB (by omega)
      have c1 := hcell i hini
      clear hcell
      have Hdef := Lib.hid (show inB (ix ws i) 0 9 = decide (0 ≤ ix ws i ∧ ix ws i ≤ 9) from rfl)
      by_cases e1 : ix ws i < 0
      · go_wp2
        go_ret
        exact ⟨ret_bool (by rw [Hd.out, ← Hi.out, allR, Hdef.out, decide_eq_false (by omega)]; rfl), _, rfl⟩
      by_cases e2 : 9 < ix ws i
      · go_wp2
        go_ret
        exact ⟨ret_bool (by rw [Hd.out, ← Hi.out, allR, Hdef.out, decide_eq_false (by omega)]; rfl), _, rfl⟩
      go_wp2
      go_roundg gi
      case measure => omega
      case rel => exact ⟨i + 1, _, by omega, by go_num, by first | rfl | exact drewN_0 _ | exact drewN_add _ _ _, Lib.hid (by rw [← Hi.out, allR, Hdef.out, decide_eq_true (by omega), Bool.true_and])⟩
    · have hini' : ¬ (i : Int) < (ws.length : Nat) := by omega
      obtain rfl : gk = 0 := by omega
      have HF := Lib.hid (show weightsB D ws = (spB D && decide (ws.length = D.length)) by rw [Hd.out, ← Hi.out]; rfl)
      clear Hd Hi hcell
      cases hs : spB D with
      | false =>
        rw [hs] at HC HF
        clear hs
        go_wp2_with (go_at_call 95; refine (HC.out _ (by exact HM.out)).mono ?_; rintro e w' ⟨rfl, m0, rfl⟩)
        go_ret
        exact ⟨ret_bool (by rw [HF.out]; rfl), _, by first | rfl | exact drewN_add _ _ _⟩
      | true =>
        rw [hs] at HC HF
        clear hs
        go_wp2_with (go_at_call 95; refine (HC.out _ (by exact HM.out)).mono ?_; rintro e w' ⟨rfl, m0, rfl⟩)
        go_ret
        exact ⟨ret_bool (by rw [HF.out, Bool.true_and, Bool.eq_iff_iff]; simp; omega), _, by first | rfl | exact drewN_add _ _ _⟩

set_option maxHeartbeats 1000000 in
theorem sWeightsOk_any (A : Option Addr) (c : Nat) (D : List (List Int)) (B : Option Addr) (d : Nat) (ws : List Int) (w : World) (h : Mat w A c D) (hw : Ints w B d ws) :
    Calls Try.prog 110 #[.slice A D.length c, .slice B ws.length d] w fun e w' => e = .returned (.bool (weightsB D ws)) ∧ ∃ m, w' = w.drewN m := by
  have HC := Lib.hid (fun W (k : Mat W A c D) => SpaceOk_any A c D W k)
  have HM := Lib.hid h
  obtain ⟨h1, h2, b, o, hB, hcell⟩ := hw
  obtain ⟨g1, g2, _⟩ := h
  unfold maxLen at h2 g2
  have Hd := Lib.hid (show weightsB D ws = (wtB ws && (spB D && decide (ws.length = D.length))) from rfl)
  go_enter Try.func110, Try.ntmps110
  go_wp2
  go_loopg [5] (ws.length) (fun g s5 wr => ∃ (i m : Nat), i + g = ws.length ∧ s5 = .int .i64 i ∧ wr = w.drewN m ∧ Hid (allR (fun i => inB (ix ws i) 0 9) g i = wtB ws))
  case atStart => exact ⟨0, _, by omega, rfl, by first | rfl | exact drewN_0 _ | exact drewN_add _ _ _, Lib.hid (rfl)⟩
  case round =>
    obtain ⟨i, mi, hi, rfl, rfl, Hi⟩ := hrel
    by_cases hini : i < ws.length
    · obtain ⟨gi, rfl⟩ : ∃ g', gk = g' + 1 := ⟨gk - 1, by omega⟩
      have hini' : (i : Int) < (ws.length : Nat) := by omega
      obtain rfl := hB (by omega)
      have c1 := hcell i hini
      clear hcell
      cases e1 : inB (ix ws i) 0 9 with
      | false =>
        have E1 := Lib.hid e1
        go_wp2_with (go_at_call 98; refine (l1In_any _ _ _ _).mono ?_; rintro e w' ⟨rfl, rfl⟩)
        go_ret
        exact ⟨ret_bool (by rw [Hd.out, ← Hi.out, allR, E1.out]; rfl), _, rfl⟩
      | true =>
        have E1 := Lib.hid e1
        go_wp2_with (go_at_call 98; refine (l1In_any _ _ _ _).mono ?_; rintro e w' ⟨rfl, rfl⟩)
        go_roundg gi
        case measure => omega
        case rel => exact ⟨i + 1, _, by omega, by go_num, by first | rfl | exact drewN_0 _ | exact drewN_add _ _ _, Lib.hid (by rw [← Hi.out, allR, E1.out, Bool.true_and])⟩
    · have hini' : ¬ (i : Int) < (ws.length : Nat) := by omega
      obtain rfl : gk = 0 := by omega
      have HF := Lib.hid (show weightsB D ws = (spB D && decide (ws.length = D.length)) by rw [Hd.out, ← Hi.out]; rfl)
      clear Hd Hi hcell
      cases hs : spB D with
      | false =>
        rw [hs] at HC HF
        clear hs
        go_wp2_with (go_at_call 32; refine (HC.out _ (by exact HM.out)).mono ?_; rintro e w' ⟨rfl, m0, rfl⟩)
        go_ret
        exact ⟨ret_bool (by rw [HF.out]; rfl), _, by first | rfl | exact drewN_add _ _ _⟩
      | true =>
        rw [hs] at HC HF
        clear hs
        go_wp2_with (go_at_call 32; refine (HC.out _ (by exact HM.out)).mono ?_; rintro e w' ⟨rfl, m0, rfl⟩)
        go_ret
        exact ⟨ret_bool (by rw [HF.out, Bool.true_and, Bool.eq_iff_iff]; simp; omega), _, by first | rfl | exact drewN_add _ _ _⟩
end Go.Proofs.Ytpfbnaachibbfab
