/- What is proved: sameDeed and sameDeeds of equal deeds. Conditions: those of each contract. -/
import Derived.Test.YtcejdgnfmcgopaaGreatDoorPa
import Derived.Test.YtcejdgnfmcgopaaGreatDoorDls
import Derived.Deep.RegionLaw
namespace Go.Proofs.YtcejdgnfmcgopaaGreatDoor
open Go.RowKit
set_option maxRecDepth 100000 in
set_option maxHeartbeats 2000000 in
theorem sameDeed_any (k : Int) (A B : Option Addr) (c d : Nat) (xs : List Int) (w : World) (h1 : Ints w A c xs) (h2 : Ints w B d xs) :
    Calls Tryz.prog 78 #[.agg #[.int .i64 k, .slice A xs.length c], .agg #[.int .i64 k, .slice B xs.length d]] w fun e w' => e = .returned (.bool true) ∧ Ext w w' := by
  have HC0 := fun W (q : Ext w W) => sameInts_any A B c d xs xs W (h1.ext q) (h2.ext q)
  rw [eqI_refl] at HC0
  have HC := Lib.hid HC0
  clear HC0 h1 h2
  obtain ⟨w2, hw2⟩ : ∃ W, (w.alloc (.cells #[.int .i64 k, .slice A xs.length c] 56)).alloc (.cells #[.int .i64 k, .slice B xs.length d] 56) = W := ⟨_, rfl⟩
  obtain ⟨b0, b1, hx2, -⟩ := two_blocks (w := w) (o1 := .cells #[.int .i64 k, .slice A xs.length c] 56) (o2 := .cells #[.int .i64 k, .slice B xs.length d] 56) (w1 := w2) (by rw [hw2]; exact Ext.refl _)
  obtain ⟨p0, p1⟩ := two_cells b0
  obtain ⟨q0, q1⟩ := two_cells b1
  have HX2 := Lib.hid hx2
  clear b0 b1 hx2
  go_enter Tryz.func78, Tryz.ntmps78
  go_wp2_with fail
  refine (HC.out _ HX2.out).mono ?_
  rintro e w3 ⟨rfl, m, rfl⟩
  go_wp2_with fail
  go_ret
  exact ⟨rfl, by apply Ext.drewN'; exact HX2.out⟩
set_option maxRecDepth 100000 in
set_option maxHeartbeats 4000000 in
theorem sameDeeds_any (A B : Option Addr) (c d : Nat) (ds : List (Int × List Int)) (w : World) (h1 : DeedsM w A c ds) (h2 : DeedsM w B d ds) :
    Calls Tryz.prog 31 #[.slice A ds.length c, .slice B ds.length d] w fun e w' => e = .returned (.bool true) ∧ Ext w w' := by
  obtain ⟨bX, oX, RX, rX, hA, hk, hx, hi⟩ := h1.parts
  obtain ⟨bY, oY, RY, rY, hB, hk2, hx2, hi2⟩ := h2.parts
  have hc2 := h1.2.1
  have hc1 := h1.1
  have hd2 := h2.2.1
  have hd1 := h2.1
  unfold maxLen at hc2 hd2
  have HRX := Lib.hid (fun W (q : Ext w W) i (hlt : i < ds.length) => And.intro (q.cell (hk i hlt)) (And.intro (q.cell (hx i hlt)) ((hi i hlt).ext q)))
  have HRY := Lib.hid (fun W (q : Ext w W) i (hlt : i < ds.length) => And.intro (q.cell (hk2 i hlt)) (And.intro (q.cell (hx2 i hlt)) ((hi2 i hlt).ext q)))
  clear h1 h2 hk hx hi hk2 hx2 hi2
  go_enter Tryz.func31, Tryz.ntmps31
  go_wp2
  go_loopg [5] ds.length (fun g s5 wr => ∃ (i : Nat), i + g = ds.length ∧ s5 = .int .i64 i ∧ Hid (Ext w wr))
  case atStart => exact ⟨0, by omega, rfl, Lib.hid (Ext.refl _)⟩
  case round =>
    obtain ⟨i, hi, rfl, HW⟩ := hrel
    by_cases hin : i < ds.length
    · obtain ⟨g1, rfl⟩ : ∃ g', gk = g' + 1 := ⟨gk - 1, by omega⟩
      have hin' : (i : Int) < (ds.length : Nat) := by omega
      obtain rfl := hA (by omega)
      obtain rfl := hB (by omega)
      obtain ⟨r1, r2, r3⟩ := HRX.out wr HW.out i hin
      obtain ⟨r4, r5, r6⟩ := HRY.out wr HW.out i hin
      obtain ⟨kd, hkd⟩ : ∃ n, dk ds i = n := ⟨_, rfl⟩
      obtain ⟨xd, hxd⟩ : ∃ n, dx ds i = n := ⟨_, rfl⟩
      rw [hkd] at r1 r4
      rw [hxd] at r2 r3 r5 r6
      have HC := Lib.hid (fun W (q : Ext wr W) => sameDeed_any kd (RX i) (RY i) (rX i) (rY i) xd W (r3.ext q) (r6.ext q))
      clear r3 r6 hkd hxd
      go_wp2_with fail
      go_region_law (go_simp; go_at_call 78; refine (HC.out _ (by repeat (first | exact Ext.refl _ | apply Ext.drew' | apply Ext.alloc'))).mono ?_; rintro e w5 ⟨rfl, hx5⟩)
      all_goals
        go_wp2
        go_roundg g1
        case measure => omega
        case rel => exact ⟨i + 1, by omega, by go_num, Lib.hid ((HW.out.drew').trans hx5)⟩
    · have hin' : ¬ (i : Int) < (ds.length : Nat) := by omega
      obtain rfl : gk = 0 := by omega
      clear hA hB
      go_wp2
      go_ret
      exact ⟨rfl, HW.out⟩
end Go.Proofs.YtcejdgnfmcgopaaGreatDoor
