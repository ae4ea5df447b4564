/- What is proved: the walk of the law FnDeedText (if l20Deed draws a deed). Conditions: those of the contract. -/
import Derived.Test.YtcejdgnfmcgopaaDoorDrRd
import Derived.Test.YtcejdgnfmcgopaaDoorSds
import Derived.Test.YtcejdgnfmcgopaaDoorRp
import Derived.Test.YtcejdgnfmcgopaaDoorLawReadDeed
import Derived.Test.YtcejdgnfmcgopaaDoorLawDeedText
import Derived.Test.YtcejdgnfmcgopaaDoorAlive
namespace Go.Proofs.YtcejdgnfmcgopaaDoor
open Go.RowKit
set_option maxRecDepth 100000 in
set_option maxHeartbeats 8000000 in
theorem FnDeedText_walk (hDeed : DeedAny) (A : Option Addr) (n c : Nat) (w : World) (h : Byt w A n c) (hE : Env w) :
    Calls Tryd.prog 3 #[.slice A n c] w fun e w' => e = .returned (.bool true) ∧ Ext w w' := by
  by_cases hz : 1048576 < n
  · have hz' : (1048576 : Int) < (n : Nat) := by omega
    go_enter Tryd.func3, Tryd.ntmps3
    go_wp2
    go_ret
    exact ⟨rfl, (by repeat (first | exact Ext.refl _ | assumption | apply Ext.drewN' | apply Ext.alloc' | refine Ext.trans ?_ (by assumption)))⟩
  have hz' : ¬ (1048576 : Int) < (n : Nat) := by omega
  have HE := Lib.hid hE
  have HDR := Lib.hid (drawDeedText_any hDeed A n c w h)
  clear h hE
  go_enter Tryd.func3, Tryd.ntmps3
  go_wp2_with fail
  refine HDR.out.mono ?_
  rintro e w1 ⟨k, A1, c1, xs, rfl, hI1, hxl, hx1⟩
  obtain ⟨w2, hw2⟩ : ∃ W, w1.alloc (.cells #[.int .i64 k, .slice A1 xs.length c1] 25) = W := ⟨_, rfl⟩
  have hx12 : Ext w1 w2 := by rw [← hw2]; exact Ext.alloc _ _
  have hb2 := heap_alloc_new w1 (.cells #[.int .i64 k, .slice A1 xs.length c1] 25)
  rw [hw2] at hb2
  have HB := Lib.hid (fun W (q : Ext w2 W) => two_cells ((q.block (heap_lt hb2)).trans hb2))
  have HI := Lib.hid (fun W (q : Ext w2 W) => hI1.ext (hx12.trans q))
  have HX2 := Lib.hid (hx1.trans hx12)
  have HIT := fun W (q : Ext w2 W) => iDeedText_any k A1 c1 xs W (HI.out W q) (HE.out.ext (HX2.out.trans q)).1 (by omega)
  have HST := fun W (q : Ext w2 W) => sDeedText_any k A1 c1 xs W (HI.out W q) (by omega)
  have HRC := Lib.hid (fun (q : dtx k xs ≠ []) => rdI_complete (L := dtx k xs) rfl q)
  have htl := dtx_len k xs
  obtain ⟨T, hT⟩ : ∃ T, dtx k xs = T := ⟨_, rfl⟩
  rw [hT] at HIT HST HRC htl
  have HIT' := Lib.hid HIT
  have HST' := Lib.hid HST
  have HRD := Lib.hid (fun W (q : Ext w2 W) => iReadDeed_any T W (by omega) (HE.out.ext (HX2.out.trans q)))
  obtain ⟨p0, p1⟩ := HB.out w2 (Ext.refl _)
  clear hI1 hx1 hx12 hb2 HIT HST hT HDR
  go_wp2_with fail
  clear hw2
  refine (HIT'.out _ (Ext.refl _)).mono ?_
  rintro e w3 ⟨rfl, hx3⟩
  clear p0 p1
  obtain ⟨p0, p1⟩ := HB.out w3 hx3
  unfold tx
  go_wp2_with fail
  refine (HST'.out _ hx3).mono ?_
  rintro e w4 ⟨rfl, hx4⟩
  clear p0 p1
  have HX24 := Lib.hid (hx3.trans hx4)
  unfold tx
  clear hx3 hx4
  by_cases h0 : T = []
  · subst h0
    have HAL := Lib.hid (alive_any w4)
    go_wp2_with fail
    refine HAL.out.mono ?_
    rintro e w5 ⟨rfl, hx5⟩
    go_wp2
    go_ret
    exact ⟨rfl, HX2.out.trans (HX24.out.trans hx5)⟩
  · have hne : T.isEmpty = false := by
      cases T with
      | nil => exact absurd rfl h0
      | cons x l => rfl
    have hrc := HRC.out h0
    rw [hrc] at HRD
    have HRD' : Hid (∀ W, Ext w2 W → Calls Tryd.prog 8 #[.string ⟨T.toArray⟩] W fun e W' => ∃ v, e = .returned (.tuple #[.agg #[.int .i64 k, v], .bool true]) ∧ Leaf W' v xs ∧ (∀ g ∈ lb v, W.heap.size ≤ g) ∧ Ext W W') := HRD
    clear hrc HRC HRD h0
    go_wp2_with fail
    refine (HRD'.out _ HX24.out).mono ?_
    rintro e w5 ⟨v5, rfl, hL5, -, hx5⟩
    obtain ⟨A5, c5, rfl, hI5⟩ := hL5.ints
    obtain ⟨w6, hw6⟩ : ∃ W, w5.alloc (.cells #[.int .i64 k, .slice A5 xs.length c5] 25) = W := ⟨_, rfl⟩
    have hx56 : Ext w5 w6 := by rw [← hw6]; exact Ext.alloc _ _
    have hb6 := heap_alloc_new w5 (.cells #[.int .i64 k, .slice A5 xs.length c5] 25)
    rw [hw6] at hb6
    obtain ⟨q0, q1⟩ := two_cells hb6
    have HX26 := Lib.hid (HX24.out.trans (hx5.trans hx56))
    obtain ⟨p0, p1⟩ := HB.out w6 HX26.out
    have HSD := Lib.hid (sameDeed_any k A5 A1 c5 c1 xs w6 (hI5.ext hx56) (HI.out _ HX26.out))
    clear hL5 hI5 hx5 hx56 hb6
    go_wp2_with fail
    clear hw6
    refine HSD.out.mono ?_
    rintro e w7 ⟨rfl, hx7⟩
    go_wp2_with fail
    go_ret
    exact ⟨rfl, HX2.out.trans (HX26.out.trans hx7)⟩
end Go.Proofs.YtcejdgnfmcgopaaDoor
