/- What is proved: the walk of the law FnExactDeedText. Conditions: those of the contract. -/
import Derived.Test.YtjpgjmhdjepfgaaDoorDt
import Derived.Test.YtjpgjmhdjepfgaaDoorDe
import Derived.Deep.DeepCutAuto
import Derived.Deep.RegionLaw
import Derived.Deep.CutBlock
namespace Go.Proofs.YtjpgjmhdjepfgaaDoor
open Go.RowKit
theorem szI_le {n : Nat} {l : Int} (h : ¬ szI n l < 0) : (n : Int) ≤ l := by
  unfold szI at h
  split at h <;> omega
set_option maxRecDepth 100000 in
set_option maxHeartbeats 4000000 in
theorem iDeedText_any (kd : Int) (A : Option Addr) (c : Nat) (xs : List Int) (w : World) (h : Ints w A c xs) (hn : Names w) (hl : xs.length ≤ 1048576) :
    Calls Tryd.prog 10 #[.agg #[.int .i64 kd, .slice A xs.length c]] w fun e w' => e = .returned (tx (dtx kd xs)) ∧ Ext w w' := by
  have HC := Lib.hid (fun W (q : Ext w W) => deedText_any kd A c xs W (h.ext q) (hn.ext q) hl)
  clear h hn
  go_enter Tryd.func10, Tryd.ntmps10
  go_wp2_with fail
  refine (HC.out _ (by repeat (first | exact Ext.refl _ | apply Ext.drewN' | apply Ext.alloc'))).mono ?_
  rintro e w1 ⟨rfl, hx⟩
  go_wp2
  go_ret
  exact ⟨rfl, Ext.trans (by repeat (first | exact Ext.refl _ | apply Ext.drewN' | apply Ext.alloc')) hx⟩
set_option maxRecDepth 100000 in
set_option maxHeartbeats 4000000 in
theorem FnExactDeedText_walk (kd : Int) (A : Option Addr) (c : Nat) (xs : List Int) (w : World) (h : Ints w A c xs) (hn : Names w) :
    Calls Tryd.prog 3 #[.agg #[.int .i64 kd, .slice A xs.length c]] w fun e w' => e = .returned (.bool true) ∧ Ext w w' := by
  have H1 := Lib.hid h
  have HN := Lib.hid hn
  have hl1 := h.1
  have hl2 := h.2.1
  have hl3 : xs.length ≤ maxLen := by omega
  unfold maxLen at hl2
  have hb0 := heap_alloc_new w (.cells #[.int .i64 kd, .slice A xs.length c] 24)
  have HXT := Lib.hid (show Ext w (w.alloc (.cells #[.int .i64 kd, .slice A xs.length c] 24)) from Ext.alloc _ _)
  have HB := Lib.hid (fun W (q : Ext (w.alloc (.cells #[.int .i64 kd, .slice A xs.length c] 24)) W) => two_cells ((q.block (heap_lt hb0)).trans hb0))
  clear h hn hb0
  go_enter Tryd.func3, Tryd.ntmps3
  obtain ⟨p0, p1⟩ := HB.out _ (Ext.refl _)
  go_wp2_with fail
  refine (szDeed_any kd A xs.length c 1048576 _ (by omega) (by omega) hl3).mono ?_
  rintro e w1 ⟨rfl, hx1⟩
  by_cases hsz : szI xs.length 1048576 < 0
  · go_wp2
    go_ret
    exact ⟨rfl, HXT.out.trans hx1⟩
  have hz := szI_le hsz
  have hz2 : xs.length ≤ 1048576 := by omega
  obtain ⟨l0, hl0⟩ : ∃ l, szI xs.length 1048576 = l := ⟨_, rfl⟩
  rw [hl0] at hsz
  rw [hl0]
  clear hl0 p0 p1
  obtain ⟨p0, p1⟩ := HB.out w1 hx1
  have HX1 := Lib.hid (show Ext w w1 from HXT.out.trans hx1)
  go_wp2_with fail
  refine (toDeed_any kd A c xs _ (H1.out.ext HX1.out) hz2).mono ?_
  rintro e w2 ⟨v2, rfl, hL2, -, hx2⟩
  obtain ⟨A2, c2, rfl, hI2⟩ := hL2.ints
  have HI2 := Lib.hid hI2
  clear p0 p1
  obtain ⟨p0, p1⟩ := HB.out w2 (hx1.trans hx2)
  clear hL2 hI2
  go_wp2_with fail
  refine (sDeedText_any kd A2 c2 xs _ (HI2.out.ext (by repeat (first | exact Ext.refl _ | assumption | apply Ext.drewN' | apply Ext.alloc' | refine Ext.trans ?_ (by assumption)))) hz2).mono ?_
  rintro e w3 ⟨rfl, hx3⟩
  clear p0 p1
  obtain ⟨p0, p1⟩ := HB.out w3 (hx1.trans (hx2.trans hx3))
  unfold tx
  obtain ⟨R, hR⟩ : ∃ R, dtx kd xs = R := ⟨_, rfl⟩
  have HR := Lib.hid hR
  rw [hR]
  clear hR
  go_wp2_with fail
  refine (toDeed_any kd A c xs _ (H1.out.ext (HX1.out.trans (hx2.trans hx3))) hz2).mono ?_
  rintro e w4 ⟨v4, rfl, hL4, -, hx4⟩
  obtain ⟨A4, c4, rfl, hI4⟩ := hL4.ints
  have HI4 := Lib.hid hI4
  clear hI4 hL4
  clear p0 p1
  obtain ⟨p0, p1⟩ := HB.out w4 (hx1.trans (hx2.trans (hx3.trans hx4)))
  obtain ⟨w5, hw5⟩ : ∃ W, w4.alloc (.cells #[.int .i64 kd, .slice A4 xs.length c4] 27) = W := ⟨_, rfl⟩
  have hx5 : Ext w4 w5 := by rw [← hw5]; exact Ext.alloc _ _
  have hb5 := heap_alloc_new w4 (.cells #[.int .i64 kd, .slice A4 xs.length c4] 27)
  rw [hw5] at hb5
  have HB5 := Lib.hid (fun W (q : Ext w5 W) => two_cells ((q.block (heap_lt hb5)).trans hb5))
  have HX5 := Lib.hid (show Ext w w5 from (HX1.out.trans (hx2.trans (hx3.trans hx4))).trans hx5)
  have HA5 := Lib.hid (show Ext (w.alloc (.cells #[.int .i64 kd, .slice A xs.length c] 24)) w5 from hx1.trans (hx2.trans (hx3.trans (hx4.trans hx5))))
  have HI5 := Lib.hid (HI4.out.ext hx5)
  clear hb5 p0 p1 hx1 hx2 hx3 hx4 hx5
  obtain ⟨z0, z1⟩ := HB5.out w5 (Ext.refl _)
  go_wp2_with fail
  clear hw5 z0 z1
  refine (iDeedText_any kd A4 c4 xs _ HI5.out (HN.out.ext HX5.out) hz2).mono ?_
  rintro e w6 ⟨rfl, hx6⟩
  rw [HR.out]
  unfold tx
  obtain ⟨p0, p1⟩ := HB.out w6 (HA5.out.trans hx6)
  obtain ⟨z0, z1⟩ := HB5.out w6 hx6
  have HTE := Lib.hid (fun W (q : Ext w6 W) => toDeed_any kd A c xs W (H1.out.ext ((HX5.out.trans hx6).trans q)) hz2)
  have HX6 := Lib.hid hx6
  clear hx6
  go_wp2_with fail
  go_region_law (first | (go_simp; go_at_call 9; (fail_if_success (have q := hL20)); refine (HTE.out _ (by repeat (first | exact Ext.refl _ | apply Ext.drew' | apply Ext.alloc'))).mono ?_; rintro e w20 ⟨v20, rfl, hL20, -, hX20⟩; have HX20 := Lib.hid (show Ext w6 w20 from Ext.trans (by repeat (first | exact Ext.refl _ | apply Ext.drew' | apply Ext.alloc')) hX20); obtain ⟨A20, c20, rfl, hI20⟩ := hL20.ints; obtain ⟨zz0, zz1⟩ := HB5.out w20 (HX6.out.trans HX20.out)) | (go_simp; go_at_call 11; refine (eqDeed_any kd A4 A20 c4 c20 xs w20 (HI5.out.ext (HX6.out.trans HX20.out)) hI20).mono ?_; rintro e w21 ⟨rfl, hX21⟩))
  all_goals
    go_wp2_with fail
    go_ret
    exact ⟨rfl, (HX5.out.trans HX6.out).trans (HX20.out.trans hX21)⟩
end Go.Proofs.YtjpgjmhdjepfgaaDoor
