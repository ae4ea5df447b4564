/- What is proved: impl.RadiusOf returns a distance at which from some point no other one is farther. Condition: a space. -/
import Derived.Test.YtcejdgnfmcgopaaGreatDoorPa
import Derived.Test.YtcejdgnfmcgopaaGreatDoorMeds
namespace Go.Proofs.YtcejdgnfmcgopaaGreatDoor
open Go.RowKit
theorem maxI_ge' {xs : List Int} {j : Nat} (hj : j < xs.length) : ix xs j ≤ maxI xs := by
  have := itR_inv (f := fun k s => max s (ix xs k)) (fun k (s : Int) => ∀ j, j < k → ix xs j ≤ s) (xs.length - 1) 1 (ix xs 0) (fun j hj => by
    have : j = 0 := by omega
    subst this; omega) (fun k s _ hk h j hj => by
    show ix xs j ≤ max s (ix xs k)
    by_cases e : j = k
    · subst e; omega
    · have := h j (by omega); omega)
  exact this j (by omega)
theorem maxI_bd' {xs : List Int} {a b : Int} (h0 : 0 < xs.length) (h : ∀ j, j < xs.length → a ≤ ix xs j ∧ ix xs j ≤ b) : a ≤ maxI xs ∧ maxI xs ≤ b :=
  itR_inv (f := fun k s => max s (ix xs k)) (fun _ (s : Int) => a ≤ s ∧ s ≤ b) (xs.length - 1) 1 (ix xs 0) (h 0 h0) (fun k s h1 hk hs => by
    have := h k (by omega)
    show a ≤ max s (ix xs k) ∧ max s (ix xs k) ≤ b
    omega)
set_option maxRecDepth 100000 in
set_option maxHeartbeats 2000000 in
theorem iRadiusOf_any (A : Option Addr) (cp : Nat) (D : List (List Int)) (w : World) (h : Mat w A cp D) (hs : spB D = true) :
    Calls Tryz.prog 121 #[.slice A D.length cp] w fun e w' => ∃ b : Nat, b < D.length ∧ e = .returned (.tuple #[.int .i64 (maxI (row D b)), .int .i64 b, .bool true]) ∧ ∃ m, w' = w.drewN m := by
  have HC := Lib.hid (isSpace_any A cp D w h)
  rw [hs] at HC
  obtain ⟨⟨hn1, hn6⟩, hsq, hcells⟩ := farB_parts (spB_far hs)
  obtain ⟨bk, o, rc, rb, ro, hA, hrow, hlen, hcell, hints⟩ := h.square hsq
  obtain rfl := hA (by omega)
  have HR := Lib.hid hrow
  have HMX := Lib.hid (fun (i : Nat) (hi : i < D.length) W (q : Ext w W) => (show Calls Tryz.prog 145 #[.slice (some ⟨rb i, ro i, none⟩) D.length (rc i)] W fun e w' => e = .returned (.int .i64 (maxI (row D i))) ∧ ∃ m, w' = W.drewN m from by
    have := slicesMax_any (some ⟨rb i, ro i, none⟩) (rc i) (row D i) W ((hints i hi).ext q) (by rw [hsq i hi]; omega)
    rw [hsq i hi] at this
    exact this))
  clear hs hsq hcells h hrow hlen hcell hints hA
  go_enter Tryz.func121, Tryz.ntmps121
  go_wp2_with fail
  refine (HC.out).mono ?_
  rintro e w1 ⟨rfl, m1, rfl⟩
  go_wp2
  go_loopg [13, 5] (D.length) (fun g s13 s5 wr => ∃ (i m : Nat) (q : Int), i + g = D.length ∧ s13 = .int .i64 i ∧ s5 = .int .i64 q ∧ wr = w.drewN m ∧ 0 ≤ q ∧ q < D.length ∧ Hid (True))
  case atStart => exact ⟨0, _, _, by omega, rfl, rfl, by first | rfl | exact drewN_0 _ | exact drewN_add _ _ _, by omega, by omega, Lib.hid (trivial)⟩
  case round =>
    obtain ⟨i, mi, q, hi, rfl, rfl, rfl, hq, hqn, Hi⟩ := hrel
    by_cases hini : i < D.length
    · obtain ⟨gi, rfl⟩ : ∃ g', gk = g' + 1 := ⟨gk - 1, by omega⟩
      have hini' : (i : Int) < (D.length : Nat) := by omega
      obtain ⟨b, rfl⟩ : ∃ b : Nat, q = b := ⟨q.toNat, by omega⟩
      have hb : b < D.length := by omega
      have hb' : (b : Int) < (D.length : Nat) := by omega
      have r1 := HR.out i hini
      have r2 := HR.out b hb
      by_cases hm : maxI (row D i) < maxI (row D b)
      · go_wp2
        go_big_quiet ((go_at_call 145; exact quiet_add (HMX.out _ (by first | exact hini | exact hb) _ (Ext.drewN _ _))))
        go_wp2
        go_roundg gi
        case measure => omega
        case rel => exact ⟨i + 1, _, i, by omega, by go_num, by first | rfl | go_num, by first | rfl | exact drewN_0 _ | exact drewN_add _ _ _, by omega, by omega, Lib.hid (by trivial)⟩
      · go_wp2
        go_big_quiet ((go_at_call 145; exact quiet_add (HMX.out _ (by first | exact hini | exact hb) _ (Ext.drewN _ _))))
        go_wp2
        go_roundg gi
        case measure => omega
        case rel => exact ⟨i + 1, _, b, by omega, by go_num, by first | rfl | go_num, by first | rfl | exact drewN_0 _ | exact drewN_add _ _ _, by omega, by omega, Lib.hid (by trivial)⟩
    · have hini' : ¬ (i : Int) < (D.length : Nat) := by omega
      obtain rfl : gk = 0 := by omega
      obtain ⟨b, rfl⟩ : ∃ b : Nat, q = b := ⟨q.toNat, by omega⟩
      have hb : b < D.length := by omega
      have hb' : (b : Int) < (D.length : Nat) := by omega
      have r2 := HR.out b hb
      clear HR
      go_wp2_with fail
      refine (HMX.out b hb _ (Ext.drewN _ _)).mono ?_
      rintro e w2 ⟨rfl, m2, rfl⟩
      go_wp2
      (try simp only [Exit.inBlock, Exit.then])
      refine bodyPost_ret (results_tmp3 rfl _ _ _) rfl ?_
      exact ⟨b, hb, rfl, _, by first | rfl | exact drewN_add _ _ _⟩
end Go.Proofs.YtcejdgnfmcgopaaGreatDoor
