/- What is proved: the call of the law FnMediansOf returns true and has turned nothing that was there. No condition. -/
import Derived.Test.YtpfbnaachibbfabDrW2
import Derived.Test.YtpfbnaachibbfabAlive
import Derived.Test.YtpfbnaachibbfabHelp
import Derived.Test.YtpfbnaachibbfabPl4
namespace Go.Proofs.Ytpfbnaachibbfab
open Go.RowKit
set_option maxRecDepth 100000 in
set_option maxHeartbeats 4000000 in
theorem FnMediansOf_walk (A : Option Addr) (n c : Nat) (w : World) (h : Byt w A n c) :
    Calls Try.prog 6 #[.slice A n c] w fun e w' => e = .returned (.bool true) ∧ Ext w w' := by
  by_cases hz : 1048576 < n
  · have hz' : (1048576 : Int) < (n : Nat) := by omega
    go_enter Try.func6, Try.ntmps6
    go_wp2
    go_ret
    exact ⟨rfl, (by repeat (first | exact Ext.refl _ | assumption | apply Ext.drewN' | apply Ext.alloc' | refine Ext.trans ?_ (by assumption)))⟩
  have hz' : ¬ (1048576 : Int) < (n : Nat) := by omega
  go_enter Try.func6, Try.ntmps6
  go_wp2_with fail
  refine (drawMediansOf_any A n c w h).mono ?_
  rintro e w1 ⟨A1, c1, D, A2, c2, ws, rfl, hM, hD6, hI, hx1⟩
  have HM := Lib.hid hM
  have HI := Lib.hid hI
  have hlc := hM.1
  have hmx := hM.2.1
  unfold maxLen at hmx
  have hx : Ext w w1 := hx1
  clear hM hx1
  go_wp2_with fail
  refine (iMediansOf_any A1 c1 D A2 c2 ws _ (HM.out.ext (by repeat (first | exact Ext.refl _ | assumption | apply Ext.drewN' | apply Ext.alloc' | refine Ext.trans ?_ (by assumption)))) (HI.out.ext (by repeat (first | exact Ext.refl _ | assumption | apply Ext.drewN' | apply Ext.alloc' | refine Ext.trans ?_ (by assumption))))).mono ?_
  rintro e w2 ⟨v, rfl, hL, -, hx2⟩
  obtain ⟨A3, c3, rfl, hI3⟩ := hL.ints
  have HI3 := Lib.hid hI3
  clear hL
  go_wp2_with fail
  refine (sMediansOf_any A1 c1 D A2 c2 ws _ (HM.out.ext (by repeat (first | exact Ext.refl _ | assumption | apply Ext.drewN' | apply Ext.alloc' | refine Ext.trans ?_ (by assumption)))) (HI.out.ext (by repeat (first | exact Ext.refl _ | assumption | apply Ext.drewN' | apply Ext.alloc' | refine Ext.trans ?_ (by assumption))))).mono ?_
  rintro e w3 ⟨v, rfl, hL, -, hx3⟩
  obtain ⟨A4, c4, rfl, hI4⟩ := hL.ints
  have HI4 := Lib.hid hI4
  have HE := Lib.hid (eqI_refl (medsV D ws))
  clear hL hI4
  go_wp2_with fail
  refine (q_ext (sameInts_any A3 A4 c3 c4 (medsV D ws) (medsV D ws) _ (HI3.out.ext (by repeat (first | exact Ext.refl _ | assumption | apply Ext.drewN' | apply Ext.alloc' | refine Ext.trans ?_ (by assumption)))) (HI4.out.ext (by repeat (first | exact Ext.refl _ | assumption | apply Ext.drewN' | apply Ext.alloc' | refine Ext.trans ?_ (by assumption)))))).mono ?_
  rintro e w4 ⟨rfl, hx4⟩
  rw [HE.out]
  by_cases hW : weightsB D ws = true
  · obtain ⟨hs, hwl, hwb⟩ := weightsB_parts hW
    obtain ⟨n1, n6⟩ := spB_len hs
    obtain ⟨hpos, j, hj, hix, hjl⟩ := meds_first hW
    obtain ⟨S, hS⟩ : ∃ S, sm (ix ws) ws.length = S := ⟨_, rfl⟩
    have HSU := Lib.hid (fun W (q : Ints W A2 c2 ws) => sumOf_any A2 c2 ws W q (by omega) hwb)
    have hS0 : 0 ≤ S ∧ S ≤ 54 := by
      rw [← hS]
      have h1 := sm_nonneg (f := ix ws) ws.length fun i hi => (hwb i hi).1
      have h2 := sm_le (f := ix ws) (g := fun _ => 9) ws.length fun i hi => (hwb i hi).2
      rw [sm_const] at h2
      omega
    obtain ⟨s0, s1⟩ := hS0
    have HJL := Lib.hid hjl
    have HSK := Lib.hid (fun k (hk : k < D.length) W (q1 : Mat W A1 c1 D) (q2 : Ints W A2 c2 ws) => (show Calls Try.prog 36 #[.slice A1 D.length c1, .slice A2 ws.length c2, .int .i64 (k : Int)] W fun e w' => e = .returned (.int .i64 (sumP D ws k)) ∧ ∃ m, w' = W.drewN m from by
      have := iSumFrom_any A1 c1 D A2 c2 ws (k : Int) W q1 q2
      rw [sumV_pt hW hk] at this
      exact this))
    have HHI := Lib.hid (fun k W (q : Ints W A3 c3 (medsV D ws)) => hasInt_any A3 c3 (medsV D ws) k W q)
    have HLE := Lib.hid (fun k (hk : k < D.length) => least_le (ws := ws) (show 0 < D.length by omega) hk)
    have HBD := Lib.hid (fun k (hk : k < D.length) => sumP_bd hW hk)
    have HHAS := Lib.hid (fun k (hk : k < D.length) (h2 : S ≤ 2 * ix ws k) => (show hasI (medsV D ws) (k : Int) = true from half_median hW hk (by rw [hS]; exact h2)))
    have hlb := HBD.out j hj
    rw [hjl] at hlb
    obtain ⟨l0, l1⟩ := hlb
    have HZ := Lib.hid (zero_medians (D := D) hs)
    obtain ⟨LS, hLS⟩ : ∃ LS, leastS D ws = LS := ⟨_, rfl⟩
    rw [hS] at HSU
    rw [hLS] at HLE HJL l0 l1
    obtain ⟨e1, e2, b3, o3, hA3, hc3⟩ := hI3
    unfold maxLen at e2
    obtain rfl := hA3 hpos
    have cj := (hx3.trans hx4).cell (hc3 0 hpos)
    rw [hix, Nat.add_zero] at cj
    obtain ⟨i1, i2, b2, o2, hA2, hc2⟩ := hI
    unfold maxLen at i2
    obtain rfl := hA2 (by omega)
    have HCW := Lib.hid hc2
    have HWB := Lib.hid hwb
    have hposI : (0 : Int) < ((medsV D ws).length : Nat) := by omega
    have hne : (((medsV D ws).length : Int) == 0) = false := beq_eq_false_iff_ne.2 (by omega)
    have CJ := Lib.hid cj
    have HWL := Lib.hid hwl
    clear hS hjl hLS hc3 hA3 hc2 hA2 hix hs hwb cj hwl
    go_wp2
    go_loopg [6] (D.length) (fun g s6 wr => ∃ (k : Nat), k + g = D.length ∧ s6 = .int .i64 k ∧ Ext w4 wr ∧ Hid (True))
    case atStart => exact ⟨0, by omega, rfl, by repeat (first | exact Ext.refl _ | assumption | apply Ext.drewN' | apply Ext.alloc' | refine Ext.trans ?_ (by assumption)), Lib.hid (trivial)⟩
    case round =>
      obtain ⟨k, hk, rfl, hxk, Hk⟩ := hrel
      by_cases hink : k < D.length
      · obtain ⟨gk, rfl⟩ : ∃ g', gk = g' + 1 := ⟨gk - 1, by omega⟩
        have hink' : (k : Int) < (D.length : Nat) := by omega
        have hx5 : Ext w1 wr := ((hx2.trans hx3).trans hx4).trans hxk
        have cj := hxk.cell CJ.out
        have hkws : k < ws.length := by have := HWL.out; omega
        have cw := hx5.cell (HCW.out k hkws)
        have g1 : decide (sumP D ws k < sumP D ws j) = false := decide_eq_false (by have := HLE.out k hink; have := HJL.out; omega)
        obtain ⟨y0, y1⟩ := HWB.out k hkws
        obtain ⟨wk, hwk⟩ : ∃ wk, ix ws k = wk := ⟨_, rfl⟩
        have hkw : (k : Int) < (ws.length : Nat) := by omega
        have HM5 := Lib.hid (HM.out.ext hx5)
        have HI5 := Lib.hid (HI.out.ext hx5)
        have HL5 := Lib.hid (HI3.out.ext ((hx3.trans hx4).trans hxk))
        by_cases hh : S ≤ 2 * ix ws k
        · have HQ := Lib.hid (HHI.out (k : Int))
          rw [HHAS.out k hink hh] at HQ
          rw [hwk] at cw y0 y1 hh
          have g2 : decide (S ≤ 2 * wk) = true := decide_eq_true hh
          clear hwk
          go_wp2_with fail
          go_big_quiet ((first | (go_at_call 36; exact Calls.quiet_of (HSK.out _ (by first | exact hink | exact hj) _ HM5.out HI5.out)) | (go_at_call 37; exact Calls.quiet_of (HSU.out _ HI5.out)) | (go_at_call 38; exact Calls.quiet_of (HQ.out _ HL5.out))))
          go_wp2
          go_roundg gk
          case measure => omega
          case rel => exact ⟨k + 1, by omega, by go_num, by repeat (first | exact Ext.refl _ | assumption | apply Ext.drewN' | apply Ext.alloc' | refine Ext.trans ?_ (by assumption)), Lib.hid (by trivial)⟩
        · rw [hwk] at cw y0 y1 hh
          have g2 : decide (S ≤ 2 * wk) = false := decide_eq_false hh
          clear hwk
          go_wp2_with fail
          go_big_quiet ((first | (go_at_call 36; exact Calls.quiet_of (HSK.out _ (by first | exact hink | exact hj) _ HM5.out HI5.out)) | (go_at_call 37; exact Calls.quiet_of (HSU.out _ HI5.out))))
          go_wp2
          go_roundg gk
          case measure => omega
          case rel => exact ⟨k + 1, by omega, by go_num, by repeat (first | exact Ext.refl _ | assumption | apply Ext.drewN' | apply Ext.alloc' | refine Ext.trans ?_ (by assumption)), Lib.hid (by trivial)⟩
      · have hink' : ¬ (k : Int) < (D.length : Nat) := by omega
        obtain rfl : gk = 0 := by omega
        have hx5 : Ext w1 wr := ((hx2.trans hx3).trans hx4).trans hxk
        have hmk := run_make_row' (P := Try.prog) 26 3 (.int .i64 0) 8 Try.underlying26 infoI rfl .i64 .i64 D.length (by omega) (by omega)
        have HC := Lib.hid (show ∀ W : World, Mat W A1 c1 D → Ints W (some ⟨wr.heap.size, 0, none⟩) D.length (List.replicate D.length 0) → Calls Try.prog 34 #[.slice A1 D.length c1, .slice (some ⟨wr.heap.size, 0, none⟩) D.length D.length] W fun e w' => ∃ A5 c5, e = .returned (.slice A5 D.length c5) ∧ Ext W w' from fun W q1 q2 => by
          have := iMediansOf_any A1 c1 D _ _ _ W q1 q2
          rw [List.length_replicate] at this
          refine this.mono ?_
          rintro e W' ⟨v, rfl, hL, -, hx⟩
          obtain ⟨A5, c5, rfl, -⟩ := hL.ints
          exact ⟨A5, c5, by rw [HZ.out], hx⟩)
        have HL := Lib.hid (show Ints (wr.alloc (.cells (madeCells #[.int .i64 0] D.length) 3)) (some ⟨wr.heap.size, 0, none⟩) D.length (List.replicate D.length 0) from by
          obtain ⟨A', c', e, hI⟩ := (zero_leaf wr D.length (by omega)).ints
          rw [List.length_replicate] at e
          injection e with e1 e2 e3
          subst e1; subst e3
          exact hI)
        clear hne
        go_wp2_with fail
        refine (HC.out _ (HM.out.ext (hx5.trans (Ext.alloc _ _))) HL.out).mono ?_
        rintro e w6 ⟨A5, c5, rfl, hx6⟩
        clear hmk
        go_wp2
        go_ret
        exact ⟨rfl, (hx.trans (hx5.trans (Ext.alloc _ _))).trans hx6⟩
  · have hv : medsV D ws = [] := if_neg hW
    rw [hv]
    clear hI hI3 hW hv
    go_wp2_with fail
    refine (alive_any _).mono ?_
    rintro e w5 ⟨rfl, hx5⟩
    go_wp2
    go_ret
    exact ⟨rfl, (by repeat (first | exact Ext.refl _ | assumption | apply Ext.drewN' | apply Ext.alloc' | refine Ext.trans ?_ (by assumption)))⟩
end Go.Proofs.Ytpfbnaachibbfab
