/- What is proved: impl.LegOf returns twice the leg of a point of a space of three points or more. Conditions: those of the contract. -/
import Derived.Test.YtjaigidlpfdfiaaPl3
namespace Go.Proofs.Ytjaigidlpfdfiaa
open Go.RowKit
def legStep (D : List (List Int)) (p a b : Nat) (s : Int) : Int := if a ≠ p ∧ b ≠ p then min s (at2 D p a + at2 D p b - at2 D a b) else s
theorem legI_step (D : List (List Int)) (p : Nat) : legI D p = itR (fun a s => itR (fun b s => legStep D p a b s) a 0 s) D.length 0 120 := rfl
set_option maxRecDepth 100000 in
set_option maxHeartbeats 2000000 in
theorem iLegOf_any (A : Option Addr) (cp : Nat) (D : List (List Int)) (p : Nat) (w : World) (h : Mat w A cp D) (hs : spB D = true) (hp : p < D.length) (h3 : 3 ≤ D.length) :
    Calls Try.prog 27 #[.slice A D.length cp, .int .i64 p] w fun e w' => e = .returned (.int .i64 (legI D p)) ∧ ∃ m, w' = w.drewN m := by
  have HP := Lib.hid (show pointB D (p : Int) = true by unfold pointB; rw [hs, decide_eq_true (by omega)]; rfl)
  have HC := Lib.hid (hasPoint_any A cp D (p : Int) w h)
  rw [HP.out] at HC
  obtain ⟨⟨hn1, hn6⟩, hsq, hcells⟩ := farB_parts (spB_far hs)
  obtain ⟨bk, o, rc, rb, ro, hA, hrow, hlen, hcell, -⟩ := h.square hsq
  obtain rfl := hA (by omega)
  have hp' : (p : Int) < (D.length : Nat) := by omega
  have h3' : ¬ (D.length : Int) < 3 := by omega
  have HR := Lib.hid hrow
  have HL := Lib.hid hlen
  have HE := Lib.hid hcell
  have HB := Lib.hid hcells
  clear hs hsq hcells hrow hlen hcell h hA
  go_enter Try.func27, Try.ntmps27
  go_wp2_with (go_at_call 55; refine HC.out.mono ?_; rintro e w' ⟨rfl, m0, rfl⟩)
  go_loopg [19, 5] (D.length) (fun g s19 s5 wr => ∃ (a m : Nat) (s : Int), a + g = D.length ∧ s19 = .int .i64 a ∧ s5 = .int .i64 s ∧ wr = w.drewN m ∧ -60 ≤ s ∧ s ≤ 120 ∧ Hid (itR (fun a s => itR (fun b s => legStep D p a b s) a 0 s) g a s = legI D p))
  case atStart => exact ⟨0, _, _, by omega, rfl, rfl, by first | rfl | exact drewN_0 _ | exact drewN_add _ _ _, by omega, by omega, Lib.hid (rfl)⟩
  case round =>
    obtain ⟨a, ma, s, ha, rfl, rfl, rfl, s0, s1, Ha⟩ := hrel
    by_cases hina : a < D.length
    · obtain ⟨ga, rfl⟩ : ∃ g', gk = g' + 1 := ⟨gk - 1, by omega⟩
      have hina' : (a : Int) < (D.length : Nat) := by omega
      go_wp2
      go_loopg [23, 5] (a) (fun g s23 s5 wr => ∃ (b m : Nat) (t : Int), b + g = a ∧ s23 = .int .i64 b ∧ s5 = .int .i64 t ∧ wr = w.drewN m ∧ -60 ≤ t ∧ t ≤ 120 ∧ Hid (itR (fun b s => legStep D p a b s) g b t = itR (fun b s => legStep D p a b s) a 0 s))
      case atStart => exact ⟨0, _, _, by omega, rfl, rfl, by first | rfl | exact drewN_0 _ | exact drewN_add _ _ _, by omega, by omega, Lib.hid (rfl)⟩
      case round =>
        obtain ⟨b, mb, t, hb, rfl, rfl, rfl, t0, t1, Hb⟩ := hrel
        by_cases hinb : b < a
        · obtain ⟨gb, rfl⟩ : ∃ g', gk = g' + 1 := ⟨gk - 1, by omega⟩
          have hinb' : (b : Int) < (a : Nat) := by omega
          have hbn : b < D.length := by omega
          have hbn' : (b : Int) < (D.length : Nat) := by omega
          have Hst := Lib.hid (show itR (fun b s => legStep D p a b s) (gb + 1) b t = itR (fun b s => legStep D p a b s) gb (b + 1) (legStep D p a b t) from rfl)
          have Hd := Lib.hid (show legStep D p a b t = if a ≠ p ∧ b ≠ p then min t (at2 D p a + at2 D p b - at2 D a b) else t from rfl)
          by_cases ea : a = p
          · have ea' : ((a : Int) != (p : Int)) = false := by simp; omega
            have EA := Lib.hid ea
            clear ea
            go_wp2
            go_roundg gb
            case measure => omega
            case rel => exact ⟨b + 1, _, t, by omega, by go_num, by first | rfl | go_num, by first | rfl | exact drewN_0 _ | exact drewN_add _ _ _, by omega, by omega, Lib.hid (by rw [← Hb.out, Hst.out, Hd.out, if_neg (fun k => k.1 EA.out)])⟩
          · have ea' : ((a : Int) != (p : Int)) = true := by simp; omega
            by_cases eb : b = p
            · have eb' : ((b : Int) != (p : Int)) = false := by simp; omega
              have EB := Lib.hid eb
              clear eb ea
              go_wp2
              go_roundg gb
              case measure => omega
              case rel => exact ⟨b + 1, _, t, by omega, by go_num, by first | rfl | go_num, by first | rfl | exact drewN_0 _ | exact drewN_add _ _ _, by omega, by omega, Lib.hid (by rw [← Hb.out, Hst.out, Hd.out, if_neg (fun k => k.2 EB.out)])⟩
            · have eb' : ((b : Int) != (p : Int)) = true := by simp; omega
              have EAB := Lib.hid (And.intro ea eb)
              have r1 := HR.out p hp
              have r2 := HR.out a hina
              have c1 := HE.out p hp a hina
              have c2 := HE.out p hp b hbn
              have c3 := HE.out a hina b hbn
              have l1 := (HL.out p hp).1
              have l2 := (HL.out a hina).1
              obtain ⟨p1, q1, -, -⟩ := HB.out p hp a hina
              obtain ⟨p2, q2, -, -⟩ := HB.out p hp b hbn
              obtain ⟨p3, q3, -, -⟩ := HB.out a hina b hbn
              clear ea eb
              by_cases q : at2 D p a + at2 D p b - at2 D a b < t
              · have HQ := Lib.hid (show min t (at2 D p a + at2 D p b - at2 D a b) = at2 D p a + at2 D p b - at2 D a b by omega)
                go_wp2
                go_big_quiet (fail)
                go_wp2
                go_roundg gb
                case measure => omega
                case rel => exact ⟨b + 1, _, at2 D p a + at2 D p b - at2 D a b, by omega, by go_num, by first | rfl | go_num, by first | rfl | exact drewN_0 _ | exact drewN_add _ _ _, by omega, by omega, Lib.hid (by rw [← Hb.out, Hst.out, Hd.out, if_pos EAB.out, HQ.out])⟩
              · have HQ := Lib.hid (show min t (at2 D p a + at2 D p b - at2 D a b) = t by omega)
                have q' : t ≤ at2 D p a + at2 D p b - at2 D a b := by omega
                go_wp2
                go_big_quiet (fail)
                go_wp2
                go_roundg gb
                case measure => omega
                case rel => exact ⟨b + 1, _, t, by omega, by go_num, by first | rfl | go_num, by first | rfl | exact drewN_0 _ | exact drewN_add _ _ _, by omega, by omega, Lib.hid (by rw [← Hb.out, Hst.out, Hd.out, if_pos EAB.out, HQ.out])⟩
        · have hinb' : ¬ (b : Int) < (a : Nat) := by omega
          obtain rfl : gk = 0 := by omega
          have HT := Lib.hid (show t = itR (fun b s => legStep D p a b s) a 0 s from Hb.out)
          clear Hb
          go_wp2
          go_roundg ga
          case measure => omega
          case rel => exact ⟨a + 1, _, t, by omega, by go_num, by first | rfl | go_num, by first | rfl | exact drewN_0 _ | exact drewN_add _ _ _, by omega, by omega, Lib.hid (by rw [← Ha.out, itR, ← HT.out])⟩
    · have hina' : ¬ (a : Int) < (D.length : Nat) := by omega
      obtain rfl : gk = 0 := by omega
      go_wp2
      go_ret
      exact ⟨ret_int (by rw [← Ha.out]; rfl), _, by first | rfl | exact drewN_add _ _ _⟩
end Go.Proofs.Ytjaigidlpfdfiaa
