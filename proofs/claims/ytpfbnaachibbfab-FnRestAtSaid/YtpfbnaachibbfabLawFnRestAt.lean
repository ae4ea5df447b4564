/- What is proved: the call of the law FnRestAt returns true and has turned nothing that was there. No condition. -/
import Derived.Test.YtpfbnaachibbfabDrPair
import Derived.Test.YtpfbnaachibbfabAlive
import Derived.Test.YtpfbnaachibbfabBD
import Derived.Test.YtpfbnaachibbfabDiv2
namespace Go.Proofs.Ytpfbnaachibbfab
open Go.RowKit
theorem spB_tri3 {D : List (List Int)} (h : spB D = true) : ∀ i, i < D.length → ∀ k, k < D.length → ∀ j, j < D.length → at2 D i k ≤ at2 D i j + at2 D j k := by
  unfold spB at h
  simp only [Bool.and_eq_true] at h
  have h2 := h.2
  unfold triB at h2
  exact fun i hi k hk j hj => of_decide_eq_true ((allR_all _ _).1 ((allR_all _ _).1 ((allR_all _ _).1 h2 i hi) k hk) j hj)
def rv (D : List (List Int)) (a b : Nat) : Int := 2 * at2 D a b - divL (splD D) a b
theorem pointB_nat {D : List (List Int)} (hs : spB D = true) {a : Nat} (ha : a < D.length) : pointB D (a : Int) = true := by
  unfold pointB; rw [hs, decide_eq_true (by omega)]; rfl
theorem restV_pt {D : List (List Int)} (hs : spB D = true) {a b : Nat} (ha : a < D.length) (hb : b < D.length) : restV D (a : Int) (b : Int) = rv D a b := by
  unfold restV rv
  rw [if_pos ⟨pointB_nat hs ha, pointB_nat hs hb⟩]
  simp
theorem divV_pt {D : List (List Int)} (hs : spB D = true) {a b : Nat} (ha : a < D.length) (hb : b < D.length) : divV D (a : Int) (b : Int) = 2 * at2 D a b - rv D a b := by
  unfold divV rv
  rw [if_pos ⟨pointB_nat hs ha, pointB_nat hs hb⟩]
  simp
  omega
theorem rv_good {D : List (List Int)} (hs : spB D = true) : GoodE D.length (rv D) := rest_good hs (spB_tri3 hs)
theorem rv_bd {D : List (List Int)} (hs : spB D = true) {a b : Nat} (ha : a < D.length) (hb : b < D.length) : 0 ≤ rv D a b ∧ rv D a b ≤ 120 := by
  refine ⟨good_nonneg (rv_good hs) ha hb, ?_⟩
  have h1 := (div_ge hs a b).1
  have h2 := ((farB_parts (spB_far hs)).2.2 a ha b hb).2.1
  unfold rv
  omega
set_option maxRecDepth 100000 in
set_option maxHeartbeats 4000000 in
theorem FnRestAt_walk (A : Option Addr) (n c : Nat) (w : World) (h : Byt w A n c) :
    Calls Try.prog 7 #[.slice A n c] w fun e w' => e = .returned (.bool true) ∧ Ext w w' := by
  by_cases hz : 1048576 < n
  · have hz' : (1048576 : Int) < (n : Nat) := by omega
    go_enter Try.func7, Try.ntmps7
    go_wp2
    go_ret
    exact ⟨rfl, (by repeat (first | exact Ext.refl _ | assumption | apply Ext.drewN' | apply Ext.alloc' | refine Ext.trans ?_ (by assumption)))⟩
  have hz' : ¬ (1048576 : Int) < (n : Nat) := by omega
  go_enter Try.func7, Try.ntmps7
  go_wp2_with fail
  refine (drawRestAt_any A n c w h).mono ?_
  rintro e w1 ⟨A1, c1, D, p, q, rfl, hM, hx1⟩
  have HM := Lib.hid hM
  have hx : Ext w w1 := hx1
  go_wp2_with fail
  refine (iRestAt_any A1 c1 D p q _ (HM.out.ext (by repeat (first | exact Ext.refl _ | assumption | apply Ext.drewN' | apply Ext.alloc' | refine Ext.trans ?_ (by assumption))))).mono ?_
  rintro e w2 ⟨rfl, hx2⟩
  go_wp2_with fail
  refine (sRestAt_any A1 c1 D p q _ (HM.out.ext (by repeat (first | exact Ext.refl _ | assumption | apply Ext.drewN' | apply Ext.alloc' | refine Ext.trans ?_ (by assumption))))).mono ?_
  rintro e w3 ⟨rfl, hx3⟩
  by_cases hq : pointB D p = true ∧ pointB D q = true
  · obtain ⟨hp1, hp2⟩ := hq
    obtain ⟨hs, a, rfl, ha⟩ := pointB_parts hp1
    obtain ⟨-, b, rfl, hb⟩ := pointB_parts hp2
    obtain ⟨⟨hn1, hn6⟩, hsq, hcells⟩ := farB_parts (spB_far hs)
    obtain ⟨bk, o, rc, rb, ro, hA, hrow, hlen, hcell, -⟩ := (hM.ext (hx2.trans hx3)).square hsq
    obtain rfl := hA (by omega)
    have HRV := Lib.hid (fun x y (hx : x < D.length) (hy : y < D.length) => restV_pt hs hx hy)
    have HBD := Lib.hid (fun x y (hx : x < D.length) (hy : y < D.length) => rv_bd hs hx hy)
    have HT := Lib.hid (rv_good hs).2.2
    have HDV := Lib.hid (divV_pt hs ha hb)
    obtain ⟨N, hN⟩ : ∃ N, rv D a b = N := ⟨_, rfl⟩
    obtain ⟨dd, hdd⟩ : ∃ dd, at2 D a b = dd := ⟨_, rfl⟩
    have hb0 := HBD.out a b ha hb
    rw [hN] at hb0 HDV
    rw [hdd] at HDV
    obtain ⟨N0, N1⟩ := hb0
    rw [HRV.out a b ha hb, hN]
    have ha' : (a : Int) < (D.length : Nat) := by omega
    have hb' : (b : Int) < (D.length : Nat) := by omega
    have HROW := Lib.hid (hrow a ha)
    have hl3 := (hlen a ha).1
    have hce := hcell a ha b hb
    rw [hdd] at hce
    obtain ⟨d0, d1, -, -⟩ := hcells a ha b hb
    rw [hdd] at d0 d1
    have HCE := Lib.hid hce
    have HTT := Lib.hid (fun k (hk : k < D.length) => (show N ≤ rv D a k + rv D k b from by rw [← hN]; exact HT.out a ha b hb k hk))
    clear hM hx1 hrow hlen hcell hcells hsq hA hp1 hp2 hs hN hdd HT hce
    go_wp2
    go_loopg [7] (D.length) (fun g s7 wr => ∃ (k : Nat), k + g = D.length ∧ s7 = .int .i64 k ∧ Ext w3 wr ∧ Hid (True))
    case atStart => exact ⟨0, by omega, rfl, by repeat (first | exact Ext.refl _ | assumption | apply Ext.drewN' | apply Ext.alloc' | refine Ext.trans ?_ (by assumption)), Lib.hid (trivial)⟩
    case round =>
      obtain ⟨k, hk, rfl, hxk, Hk⟩ := hrel
      by_cases hink : k < D.length
      · obtain ⟨gk, rfl⟩ : ∃ g', gk = g' + 1 := ⟨gk - 1, by omega⟩
        have hink' : (k : Int) < (D.length : Nat) := by omega
        have hx4 : Ext w wr := (hx.trans (hx2.trans hx3)).trans hxk
        have H1 := Lib.hid (fun W (q1 : Mat W (some ⟨bk, o, none⟩) c1 D) => iRestAt_any (some ⟨bk, o, none⟩) c1 D (a : Int) (k : Int) W q1)
        have H2 := Lib.hid (fun W (q1 : Mat W (some ⟨bk, o, none⟩) c1 D) => iRestAt_any (some ⟨bk, o, none⟩) c1 D (k : Int) (b : Int) W q1)
        rw [HRV.out a k ha hink] at H1
        rw [HRV.out k b hink hb] at H2
        obtain ⟨x0, x1⟩ := HBD.out a k ha hink
        obtain ⟨y0, y1⟩ := HBD.out k b hink hb
        have t := HTT.out k hink
        obtain ⟨X, hX⟩ : ∃ X, rv D a k = X := ⟨_, rfl⟩
        obtain ⟨Y, hY⟩ : ∃ Y, rv D k b = Y := ⟨_, rfl⟩
        rw [hX] at H1 x0 x1 t
        rw [hY] at H2 y0 y1 t
        clear hX hY
        go_wp2_with fail
        refine (H1.out _ (HM.out.ext ((hx2.trans hx3).trans hxk))).mono ?_
        rintro e w5 ⟨rfl, hx5⟩
        go_wp2_with fail
        refine (H2.out _ (HM.out.ext (((hx2.trans hx3).trans hxk).trans hx5))).mono ?_
        rintro e w6 ⟨rfl, hx6⟩
        go_wp2
        go_roundg gk
        case measure => omega
        case rel => exact ⟨k + 1, by omega, by go_num, by repeat (first | exact Ext.refl _ | assumption | apply Ext.drewN' | apply Ext.alloc' | refine Ext.trans ?_ (by assumption)), Lib.hid (by trivial)⟩
      · have hink' : ¬ (k : Int) < (D.length : Nat) := by omega
        obtain rfl : gk = 0 := by omega
        obtain ⟨V, hV⟩ : ∃ V, 2 * dd - N = V := ⟨_, rfl⟩
        have hNV : N + V = 2 * dd := by omega
        have hv0 : -120 ≤ V ∧ V ≤ 120 := by omega
        obtain ⟨V0, V1⟩ := hv0
        have HDV' := Lib.hid HDV.out
        rw [hV] at HDV'
        clear hV HDV
        have HK := Lib.hid (fun W (q1 : Mat W (some ⟨bk, o, none⟩) c1 D) => iDividedAt_any (some ⟨bk, o, none⟩) c1 D (a : Int) (b : Int) W q1)
        rw [HDV'.out] at HK
        have Hx1 := Lib.hid (show Ext w3 wr from hxk)
        have r1 : ∀ x : EW wr, x.to.cell? _ = _ := fun x => (Hx1.out.trans x.ok).cell HROW.out
        have cc : ∀ x : EW wr, x.to.cell? _ = _ := fun x => (Hx1.out.trans x.ok).cell HCE.out
        clear HTT HRV HBD HROW HCE
        go_wp2_with fail
        refine wp_region_quiet_ext (by kernel_rfl) (by kernel_rfl) ?_
        repeat (go_big_quiet_step (((first | (go_at_call 42; exact Calls.ew_of (HK.out _ (HM.out.ext (((hx2.trans hx3).trans Hx1.out).trans (EW.ok _))))) | (go_at_call 22; exact Calls.ew_of (alive_any _))))))
        refine wpQuiet_nil ?_
        intro _ hw'
        obtain ⟨⟨wq, hq⟩, hw''⟩ := hw'
        subst hw''
        go_wp2
        go_ret
        exact ⟨rfl, ((hx.trans (hx2.trans hx3)).trans Hx1.out).trans hq⟩
  · have hv : restV D p q = -1 := if_neg hq
    rw [hv]
    clear hM hx1 hq hv
    go_wp2_with fail
    refine (alive_any _).mono ?_
    rintro e w4 ⟨rfl, hx4⟩
    go_wp2
    go_ret
    exact ⟨rfl, (by repeat (first | exact Ext.refl _ | assumption | apply Ext.drewN' | apply Ext.alloc' | refine Ext.trans ?_ (by assumption)))⟩
end Go.Proofs.Ytpfbnaachibbfab
