/- What is proved: impl.AllTogether and spec.AllTogether return the sum of all distances of a space, -1 for others. No condition. -/
import Derived.Test.YtpfbnaachibbfaaSplit
namespace Go.Proofs.Ytpfbnaachibbfaa
open Go.RowKit

/-- the sum of the distances of all pairs -/
def allT (D : List (List Int)) : Int := itR (fun i s => itR (fun k s => s + at2 D i k) i 0 s) D.length 0 0
def allTV (D : List (List Int)) : Int := if spB D = true then allT D else -1

set_option maxHeartbeats 1000000 in
theorem sAllTogether_any (A : Option Addr) (c : Nat) (D : List (List Int)) (w : World) (h : Mat w A c D) :
    Calls Try.prog 29 #[.slice A D.length c] w fun e w' => e = .returned (.int .i64 (allTV D)) ∧ ∃ m, w' = w.drewN m := by
  have HC := Lib.hid (SpaceOk_any A c D w h)
  have Hd := Lib.hid (show allTV D = if spB D = true then allT D else -1 from rfl)
  cases hs : spB D with
  | false =>
    rw [hs] at HC Hd
    clear hs
    go_enter Try.func29, Try.ntmps29
    go_wp2_with (go_at_call 75; refine HC.out.mono ?_; rintro e w' ⟨rfl, m0, rfl⟩)
    go_ret
    exact ⟨ret_int (by rw [Hd.out]; rfl), _, rfl⟩
  | true =>
    rw [hs] at HC Hd
    obtain ⟨⟨hn1, hn6⟩, hsq, hcells⟩ := farB_parts (spB_far hs)
    have HF := Lib.hid (show allTV D = allT D by rw [Hd.out, if_pos rfl])
    clear hs Hd
    obtain ⟨b, o, rc, rb, ro, hA, hrow, hlen, hcell, _⟩ := h.square hsq
    obtain rfl := hA (by omega)
    go_enter Try.func29, Try.ntmps29
    go_wp2_with (go_at_call 75; refine HC.out.mono ?_; rintro e w' ⟨rfl, m0, rfl⟩)
    go_loopg [4, 3] (D.length) (fun g s4 s3 wr => ∃ (i m : Nat) (s : Int), i + g = D.length ∧ s4 = .int .i64 i ∧ s3 = .int .i64 s ∧ wr = w.drewN m ∧ 0 ≤ s ∧ s ≤ 360 * i ∧ Hid (itR (fun i s => itR (fun k s => s + at2 D i k) i 0 s) g i s = allT D))
    case atStart => exact ⟨0, _, _, by omega, rfl, rfl, by first | rfl | exact drewN_0 _ | exact drewN_add _ _ _, by omega, by omega, Lib.hid (rfl)⟩
    case round =>
      obtain ⟨i, mi, s, hi, rfl, rfl, rfl, hs0, hs1, Hi⟩ := hrel
      by_cases hini : i < D.length
      · obtain ⟨gi, rfl⟩ : ∃ g', gk = g' + 1 := ⟨gk - 1, by omega⟩
        have hini' : (i : Int) < (D.length : Nat) := by omega
        have r1 := hrow i hini
        obtain ⟨l1, l2⟩ := hlen i hini
        unfold maxLen at l2
        have hii : i ≤ rc i := by omega
        have hii' : (i : Int) ≤ rc i := by omega
        go_wp2
        go_loopg [5, 3] (i) (fun g s5 s3 wr => ∃ (k m : Nat) (t : Int), k + g = i ∧ s5 = .int .i64 k ∧ s3 = .int .i64 t ∧ wr = w.drewN m ∧ 0 ≤ t ∧ t ≤ 360 * i + 60 * k ∧ Hid (itR (fun k s => s + at2 D i k) g k t = itR (fun k s => s + at2 D i k) i 0 s))
        case atStart => exact ⟨0, _, _, by omega, rfl, rfl, by first | rfl | exact drewN_0 _ | exact drewN_add _ _ _, by omega, by omega, Lib.hid (rfl)⟩
        case round =>
          obtain ⟨k, mk, t, hk, rfl, rfl, rfl, ht0, ht1, Hk⟩ := hrel
          by_cases hink : k < i
          · obtain ⟨gk, rfl⟩ : ∃ g', gk = g' + 1 := ⟨gk - 1, by omega⟩
            have hink' : (k : Int) < (i : Nat) := by omega
            have c1 := hcell i hini k (by omega)
            obtain ⟨b1, b1', _, _⟩ := hcells i hini k (by omega)
            clear hrow hcell hcells hlen
            go_wp2
            go_roundg gk
            case measure => omega
            case rel => exact ⟨k + 1, _, t + at2 D i k, by omega, by go_num, by first | rfl | go_num, by first | rfl | exact drewN_0 _ | exact drewN_add _ _ _, by omega, by omega, Lib.hid (by rw [← Hk.out]; rfl)⟩
          · have hink' : ¬ (k : Int) < (i : Nat) := by omega
            obtain rfl : gk = 0 := by omega
            have HT := Lib.hid (show t = itR (fun k s => s + at2 D i k) i 0 s from Hk.out)
            clear hrow hcell hcells hlen Hk
            go_wp2
            go_roundg gi
            case measure => omega
            case rel => exact ⟨i + 1, _, t, by omega, by go_num, by first | rfl | go_num, by first | rfl | exact drewN_0 _ | exact drewN_add _ _ _, by omega, by omega, Lib.hid (by rw [← Hi.out, itR, ← HT.out])⟩
      · have hini' : ¬ (i : Int) < (D.length : Nat) := by omega
        obtain rfl : gk = 0 := by omega
        clear hrow hcell hcells hlen
        go_wp2
        go_ret
        exact ⟨ret_int (by rw [HF.out, ← Hi.out]; rfl), _, rfl⟩
set_option maxHeartbeats 1000000 in
theorem iAllTogether_any (A : Option Addr) (c : Nat) (D : List (List Int)) (w : World) (h : Mat w A c D) :
    Calls Try.prog 28 #[.slice A D.length c] w fun e w' => e = .returned (.int .i64 (allTV D)) ∧ ∃ m, w' = w.drewN m := by
  have HC := Lib.hid (isSpace_any A c D w h)
  have Hd := Lib.hid (show allTV D = if spB D = true then allT D else -1 from rfl)
  cases hs : spB D with
  | false =>
    rw [hs] at HC Hd
    clear hs
    go_enter Try.func28, Try.ntmps28
    go_wp2_with (go_at_call 74; refine HC.out.mono ?_; rintro e w' ⟨rfl, m0, rfl⟩)
    go_ret
    exact ⟨ret_int (by rw [Hd.out]; rfl), _, rfl⟩
  | true =>
    rw [hs] at HC Hd
    obtain ⟨⟨hn1, hn6⟩, hsq, hcells⟩ := farB_parts (spB_far hs)
    have HF := Lib.hid (show allTV D = allT D by rw [Hd.out, if_pos rfl])
    clear hs Hd
    obtain ⟨b, o, rc, rb, ro, hA, hrow, hlen, hcell, _⟩ := h.square hsq
    obtain rfl := hA (by omega)
    go_enter Try.func28, Try.ntmps28
    go_wp2_with (go_at_call 74; refine HC.out.mono ?_; rintro e w' ⟨rfl, m0, rfl⟩)
    go_loopg [13, 3] (D.length) (fun g s13 s3 wr => ∃ (i m : Nat) (s : Int), i + g = D.length ∧ s13 = .int .i64 i ∧ s3 = .int .i64 s ∧ wr = w.drewN m ∧ 0 ≤ s ∧ s ≤ 360 * i ∧ Hid (itR (fun i s => itR (fun k s => s + at2 D i k) i 0 s) g i s = allT D))
    case atStart => exact ⟨0, _, _, by omega, rfl, rfl, by first | rfl | exact drewN_0 _ | exact drewN_add _ _ _, by omega, by omega, Lib.hid (rfl)⟩
    case round =>
      obtain ⟨i, mi, s, hi, rfl, rfl, rfl, hs0, hs1, Hi⟩ := hrel
      by_cases hini : i < D.length
      · obtain ⟨gi, rfl⟩ : ∃ g', gk = g' + 1 := ⟨gk - 1, by omega⟩
        have hini' : (i : Int) < (D.length : Nat) := by omega
        have r1 := hrow i hini
        obtain ⟨l1, l2⟩ := hlen i hini
        unfold maxLen at l2
        have hii : i ≤ rc i := by omega
        have hii' : (i : Int) ≤ rc i := by omega
        go_wp2
        go_loopg [22, 3] (i) (fun g s22 s3 wr => ∃ (k m : Nat) (t : Int), k + g = i ∧ s22 = .int .i64 k ∧ s3 = .int .i64 t ∧ wr = w.drewN m ∧ 0 ≤ t ∧ t ≤ 360 * i + 60 * k ∧ Hid (itR (fun k s => s + at2 D i k) g k t = itR (fun k s => s + at2 D i k) i 0 s))
        case atStart => exact ⟨0, _, _, by omega, rfl, rfl, by first | rfl | exact drewN_0 _ | exact drewN_add _ _ _, by omega, by omega, Lib.hid (rfl)⟩
        case round =>
          obtain ⟨k, mk, t, hk, rfl, rfl, rfl, ht0, ht1, Hk⟩ := hrel
          by_cases hink : k < i
          · obtain ⟨gk, rfl⟩ : ∃ g', gk = g' + 1 := ⟨gk - 1, by omega⟩
            have hink' : (k : Int) < (i : Nat) := by omega
            have c1 := hcell i hini k (by omega)
            obtain ⟨b1, b1', _, _⟩ := hcells i hini k (by omega)
            clear hrow hcell hcells hlen
            go_wp2
            go_roundg gk
            case measure => omega
            case rel => exact ⟨k + 1, _, t + at2 D i k, by omega, by go_num, by first | rfl | go_num, by first | rfl | exact drewN_0 _ | exact drewN_add _ _ _, by omega, by omega, Lib.hid (by rw [← Hk.out]; rfl)⟩
          · have hink' : ¬ (k : Int) < (i : Nat) := by omega
            obtain rfl : gk = 0 := by omega
            have HT := Lib.hid (show t = itR (fun k s => s + at2 D i k) i 0 s from Hk.out)
            clear hrow hcell hcells hlen Hk
            go_wp2
            go_roundg gi
            case measure => omega
            case rel => exact ⟨i + 1, _, t, by omega, by go_num, by first | rfl | go_num, by first | rfl | exact drewN_0 _ | exact drewN_add _ _ _, by omega, by omega, Lib.hid (by rw [← Hi.out, itR, ← HT.out])⟩
      · have hini' : ¬ (i : Int) < (D.length : Nat) := by omega
        obtain rfl : gk = 0 := by omega
        clear hrow hcell hcells hlen
        go_wp2
        go_ret
        exact ⟨ret_int (by rw [HF.out, ← Hi.out]; rfl), _, rfl⟩
end Go.Proofs.Ytpfbnaachibbfaa
