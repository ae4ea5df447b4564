/- What is proved: the call of the law FnSumFrom returns true and has turned nothing that was there. No condition. -/
import Derived.Test.YtpfbnaachibbfaaDrW2
import Derived.Test.YtpfbnaachibbfaaAlive
import Derived.Test.YtpfbnaachibbfaaPl1
namespace Go.Proofs.Ytpfbnaachibbfaa
open Go.RowKit
set_option maxHeartbeats 1000000 in
theorem sumOf_any (A : Option Addr) (c : Nat) (ws : List Int) (w : World) (h : Ints w A c ws) (hl : ws.length ≤ 7) (hb : ∀ i, i < ws.length → 0 ≤ ix ws i ∧ ix ws i ≤ 9) :
    Calls Try.prog 64 #[.slice A ws.length c] w fun e w' => e = .returned (.int .i64 (sm (ix ws) ws.length)) ∧ ∃ m, w' = w.drewN m := by
  obtain ⟨h1, h2, b, o, hA, hc⟩ := h
  unfold maxLen at h2
  have HB := Lib.hid hb
  clear hb
  go_enter Try.func64, Try.ntmps64
  go_wp2
  go_loopg [4, 3] (ws.length) (fun g s4 s3 wr => ∃ (i m : Nat) (s : Int), i + g = ws.length ∧ s4 = .int .i64 i ∧ s3 = .int .i64 s ∧ wr = w.drewN m ∧ 0 ≤ s ∧ s ≤ 9 * i ∧ Hid (itR (fun k s => s + ix ws k) g i s = sm (ix ws) ws.length))
  case atStart => exact ⟨0, _, _, by omega, rfl, rfl, by first | rfl | exact drewN_0 _ | exact drewN_add _ _ _, by omega, by omega, Lib.hid (rfl)⟩
  case round =>
    obtain ⟨i, mi, s, hi, rfl, rfl, rfl, hs0, hs1, Hi⟩ := hrel
    by_cases hini : i < ws.length
    · obtain ⟨gi, rfl⟩ : ∃ g', gk = g' + 1 := ⟨gk - 1, by omega⟩
      have hini' : (i : Int) < (ws.length : Nat) := by omega
      obtain rfl := hA (by omega)
      have c1 := hc i hini
      obtain ⟨b0, b1⟩ := HB.out i hini
      clear hc
      go_wp2
      go_roundg gi
      case measure => omega
      case rel => exact ⟨i + 1, _, s + ix ws i, by omega, by go_num, by first | rfl | go_num, by first | rfl | exact drewN_0 _ | exact drewN_add _ _ _, by omega, by omega, Lib.hid (by rw [← Hi.out]; rfl)⟩
    · have hini' : ¬ (i : Int) < (ws.length : Nat) := by omega
      obtain rfl : gk = 0 := by omega
      clear hc
      go_wp2
      go_ret
      exact ⟨ret_int (by rw [← Hi.out]; rfl), _, rfl⟩
theorem sumV_pt {D : List (List Int)} {ws : List Int} (hW : weightsB D ws = true) {k : Nat} (hk : k < D.length) : sumV D ws (k : Int) = sumP D ws k := by
  unfold sumV
  rw [if_pos ⟨hW, by unfold pointB; rw [(weightsB_parts hW).1, decide_eq_true (by omega)]; rfl⟩]
  simp
set_option maxRecDepth 100000 in
set_option maxHeartbeats 4000000 in
theorem FnSumFrom_walk (A : Option Addr) (n c : Nat) (w : World) (h : Byt w A n c) :
    Calls Try.prog 15 #[.slice A n c] w fun e w' => e = .returned (.bool true) ∧ Ext w w' := by
  by_cases hz : 1048576 < n
  · have hz' : (1048576 : Int) < (n : Nat) := by omega
    go_enter Try.func15, Try.ntmps15
    go_wp2
    go_ret
    exact ⟨rfl, (by repeat (first | exact Ext.refl _ | assumption | apply Ext.drewN' | apply Ext.alloc' | refine Ext.trans ?_ (by assumption)))⟩
  have hz' : ¬ (1048576 : Int) < (n : Nat) := by omega
  go_enter Try.func15, Try.ntmps15
  go_wp2_with fail
  refine (drawSumFrom_any A n c w h).mono ?_
  rintro e w1 ⟨A1, c1, D, A2, c2, ws, l, rfl, hM, hI, hx1⟩
  have HM := Lib.hid hM
  have HI := Lib.hid hI
  have hx : Ext w w1 := hx1
  go_wp2_with fail
  refine (q_ext (iSumFrom_any A1 c1 D A2 c2 ws l _ (HM.out.ext (by repeat (first | exact Ext.refl _ | assumption | apply Ext.drewN' | apply Ext.alloc' | refine Ext.trans ?_ (by assumption)))) (HI.out.ext (by repeat (first | exact Ext.refl _ | assumption | apply Ext.drewN' | apply Ext.alloc' | refine Ext.trans ?_ (by assumption)))))).mono ?_
  rintro e w2 ⟨rfl, hx2⟩
  go_wp2_with fail
  refine (q_ext (sSumFrom_any A1 c1 D A2 c2 ws l _ (HM.out.ext (by repeat (first | exact Ext.refl _ | assumption | apply Ext.drewN' | apply Ext.alloc' | refine Ext.trans ?_ (by assumption)))) (HI.out.ext (by repeat (first | exact Ext.refl _ | assumption | apply Ext.drewN' | apply Ext.alloc' | refine Ext.trans ?_ (by assumption)))))).mono ?_
  rintro e w3 ⟨rfl, hx3⟩
  by_cases hq : weightsB D ws = true ∧ pointB D l = true
  · obtain ⟨hW, hp⟩ := hq
    obtain ⟨hs, p, rfl, hpl⟩ := pointB_parts hp
    obtain ⟨-, hwl, hwb⟩ := weightsB_parts hW
    obtain ⟨⟨hn1, hn6⟩, hsq, hcells⟩ := farB_parts (spB_far hs)
    obtain ⟨bk, o, rc, rb, ro, hA, hrow, hlen, hcell, -⟩ := (hM.ext (hx2.trans hx3)).square hsq
    obtain rfl := hA (by omega)
    obtain ⟨S, hS⟩ : ∃ S, sm (ix ws) ws.length = S := ⟨_, rfl⟩
    have hS0 : 0 ≤ S ∧ S ≤ 54 := by
      rw [← hS]
      have h1 := sm_nonneg (f := ix ws) ws.length fun i hi => (hwb i hi).1
      have h2 := sm_le (f := ix ws) (g := fun _ => 9) ws.length fun i hi => (hwb i hi).2
      rw [sm_const] at h2
      omega
    have HSU := Lib.hid (fun W (q : Ints W A2 c2 ws) => sumOf_any A2 c2 ws W q (by omega) hwb)
    rw [hS] at HSU
    have HP := Lib.hid (fun k (hk : k < D.length) => sumV_pt hW hk)
    have HBD := Lib.hid (fun k (hk : k < D.length) => sumP_bd hW hk)
    have HWAY := Lib.hid (fun k (hk : k < D.length) => (show sumP D ws k - sumP D ws p ≤ at2 D p k * S ∧ sumP D ws p - sumP D ws k ≤ at2 D p k * S from by
      have a := sum_way hW hpl hk
      have b := sum_way hW hk hpl
      rw [(hcells k hk p hpl).2.2.1, hS] at b
      rw [hS] at a
      exact ⟨a, b⟩))
    obtain ⟨P0, hP0⟩ : ∃ P0, sumP D ws p = P0 := ⟨_, rfl⟩
    obtain ⟨s0, s1⟩ := hS0
    have hb0 := HBD.out p hpl
    rw [hP0] at hb0 HWAY
    obtain ⟨q0, q1⟩ := hb0
    rw [HP.out p hpl, hP0]
    have hpl' : (p : Int) < (D.length : Nat) := by omega
    have HROW := Lib.hid (hrow p hpl)
    have HLEN := Lib.hid (hlen p hpl)
    have HCE := Lib.hid (hcell p hpl)
    have HCB := Lib.hid (hcells p hpl)
    clear hM hI hx1 hrow hlen hcell hcells hsq hA hp hW hs hwb hP0 hS hwl
    go_wp2
    go_loopg [7] (D.length) (fun g s7 wr => ∃ (k : Nat), k + g = D.length ∧ s7 = .int .i64 k ∧ Ext w3 wr ∧ Hid (True))
    case atStart => exact ⟨0, by omega, rfl, by repeat (first | exact Ext.refl _ | assumption | apply Ext.drewN' | apply Ext.alloc' | refine Ext.trans ?_ (by assumption)), Lib.hid (trivial)⟩
    case round =>
      obtain ⟨k, hk, rfl, hxk, Hk⟩ := hrel
      by_cases hink : k < D.length
      · obtain ⟨gk, rfl⟩ : ∃ g', gk = g' + 1 := ⟨gk - 1, by omega⟩
        have hink' : (k : Int) < (D.length : Nat) := by omega
        have hx4 : Ext w wr := (hx.trans (hx2.trans hx3)).trans hxk
        have HD := Lib.hid (fun W (q1 : Mat W (some ⟨bk, o, none⟩) c1 D) (q2 : Ints W A2 c2 ws) => iSumFrom_any (some ⟨bk, o, none⟩) c1 D A2 c2 ws (k : Int) W q1 q2)
        rw [HP.out k hink] at HD
        obtain ⟨m0, m1⟩ := HBD.out k hink
        obtain ⟨y0, y1⟩ := HWAY.out k hink
        obtain ⟨f0, f1, -, -⟩ := HCB.out k hink
        obtain ⟨M, hM'⟩ : ∃ M, sumP D ws k = M := ⟨_, rfl⟩
        obtain ⟨dk, hdk⟩ : ∃ dk, at2 D p k = dk := ⟨_, rfl⟩
        obtain ⟨F, hF⟩ : ∃ F, dk * S = F := ⟨_, rfl⟩
        have hF0 : 0 ≤ F ∧ F ≤ 3240 := by
          rw [← hF, ← hdk]
          exact ⟨Int.mul_nonneg f0 s0, Int.le_trans (Int.mul_le_mul f1 s1 s0 (by omega)) (by omega)⟩
        obtain ⟨F0, F1⟩ := hF0
        rw [hM'] at HD m0 m1 y0 y1
        rw [hdk, hF] at y0 y1
        rw [hdk] at f0 f1
        have r1 := hxk.cell HROW.out
        have cc := hxk.cell (HCE.out k hink)
        rw [hdk] at cc
        have hl3 := HLEN.out.1
        have HI5 := Lib.hid (HI.out.ext ((hx2.trans hx3).trans hxk))
        have HM5 := Lib.hid (HM.out.ext ((hx2.trans hx3).trans hxk))
        clear hM' hdk HWAY HBD HP HCB HCE HROW HLEN
        go_wp2_with fail
        refine (HD.out _ HM5.out HI5.out).mono ?_
        rintro e w5 ⟨rfl, m5, rfl⟩
        go_wp2_with fail
        go_quiet ((go_at_call 64; (first | exact Calls.quiet_of_same (HSU.out _ HI5.out) | exact quiet_add_same (HSU.out _ HI5.out) | exact Calls.quiet_of (HSU.out _ HI5.out) | exact quiet_add (HSU.out _ HI5.out))))
        go_wp2
        go_roundg gk
        case measure => omega
        case rel => exact ⟨k + 1, by omega, by go_num, by repeat (first | exact Ext.refl _ | assumption | apply Ext.drewN' | apply Ext.alloc' | refine Ext.trans ?_ (by assumption)), Lib.hid (by trivial)⟩
      · have hink' : ¬ (k : Int) < (D.length : Nat) := by omega
        obtain rfl : gk = 0 := by omega
        go_wp2_with fail
        refine (alive_any _).mono ?_
        rintro e w7 ⟨rfl, hx7⟩
        go_wp2
        go_ret
        exact ⟨rfl, ((hx.trans (hx2.trans hx3)).trans hxk).trans hx7⟩
  · have hv : sumV D ws l = -1 := if_neg hq
    rw [hv]
    clear hM hI hx1 hq hv
    go_wp2_with fail
    refine (alive_any _).mono ?_
    rintro e w4 ⟨rfl, hx4⟩
    go_wp2
    go_ret
    exact ⟨rfl, (by repeat (first | exact Ext.refl _ | assumption | apply Ext.drewN' | apply Ext.alloc' | refine Ext.trans ?_ (by assumption)))⟩
end Go.Proofs.Ytpfbnaachibbfaa
