/- What is proved: impl.BetweenOf returns the points between two points. No condition. -/
import Derived.Test.YtcejdgnfmcgopaaGreatDoorMid2
namespace Go.Proofs.YtcejdgnfmcgopaaGreatDoor
open Go.RowKit
set_option maxRecDepth 100000 in
set_option maxHeartbeats 2000000 in
theorem betweenOf_any (A : Option Addr) (cp : Nat) (D : List (List Int)) (a b : Nat) (w : World) (h : Mat w A cp D) (hs : spB D = true) (ha : a < D.length) (hb : b < D.length) :
    Calls Tryz.prog 129 #[.slice A D.length cp, .int .i64 a, .int .i64 b] w (FreshI w (selN (btwB D a b) D.length)) := by
  obtain ⟨⟨hn1, hn6⟩, hsq, hcells⟩ := farB_parts (spB_far hs)
  clear hs
  obtain ⟨bk, o, rc, rb, ro, hA, hrow, -, hcell, -⟩ := h.square hsq
  obtain rfl := hA (by omega)
  have ha' : (a : Int) < (D.length : Nat) := by omega
  have hb' : (b : Int) < (D.length : Nat) := by omega
  go_enter Tryz.func129, Tryz.ntmps129
  go_wp2
  go_loopg [7, 12] D.length (fun g s7 s12 wr => ∃ (i : Nat), i + g = D.length ∧ s12 = .int .i64 i ∧ Col (btwB D a b) w wr s7 g i (selN (btwB D a b) D.length))
  case atStart => exact ⟨0, by omega, rfl, Col.start (Ext.refl _)⟩
  case round =>
    obtain ⟨x, hi, rfl, hcol⟩ := hrel
    by_cases hin : x < D.length
    · obtain ⟨g', rfl⟩ : ∃ g', gk = g' + 1 := ⟨gk - 1, by omega⟩
      have hin' : (x : Int) < (D.length : Nat) := by omega
      have hx := hcol.x
      have r1 := hx.cell (hrow a ha)
      have r3 := hx.cell (hrow x hin)
      have c1 := hx.cell (hcell a ha x hin)
      have c2 := hx.cell (hcell x hin b hb)
      have c3 := hx.cell (hcell a ha b hb)
      obtain ⟨p1, q1, -, -⟩ := hcells a ha x hin
      obtain ⟨p2, q2, -, -⟩ := hcells x hin b hb
      clear hrow hcell hcells hx
      have Hdef := Lib.hid (show btwB D a b x = decide (at2 D a x + at2 D x b = at2 D a b) from rfl)
      cases e1 : (at2 D a x + at2 D x b == at2 D a b) with
      | false =>
        have HE := Lib.hid (show btwB D a b x = false by rw [Hdef.out, decide_eq_false (by simpa using e1)])
        go_wp2
        go_quiet (fail)
        go_wp2
        go_roundg g'
        case measure => omega
        case rel => exact ⟨x + 1, by omega, by go_num, hcol.skip HE.out (Ext.drewN _ _)⟩
      | true =>
        have HE := Lib.hid (show btwB D a b x = true by rw [Hdef.out, decide_eq_true (beq_iff_eq.1 e1)])
        go_wp2
        go_quiet (fail)
        have hcol2 := hcol.on (Ext.drewN _ nq)
        go_wp2_with (at_builtin; refine Col.push rfl Tryz.underlying54 infoI rfl (.tmp 38) (.tmp 40) rfl _ rfl rfl hcol2 HE.out (by omega) ?_; intro v' w' hcol')
        go_roundg g'
        case measure => omega
        case rel => exact ⟨x + 1, by omega, by go_num, hcol'⟩
    · have hin' : ¬ (x : Int) < (D.length : Nat) := by omega
      obtain rfl : gk = 0 := by omega
      clear hrow hcell hcells
      go_wp2
      go_ret
      exact hcol.done
end Go.Proofs.YtcejdgnfmcgopaaGreatDoor
