/- What is proved: the walk of the law FnExactDeskLine. Conditions: those of the contract. -/
import Derived.Test.YtcejdgnfmcgopaaGreatDoorExd
import Derived.Test.YtcejdgnfmcgopaaGreatDoorPf
import Derived.Deep.DeepCutAuto
import Derived.Deep.RegionLaw
namespace Go.Proofs.YtcejdgnfmcgopaaGreatDoor
open Go.RowKit
theorem few_line {D : List (List Int)} {L : List (List (List Int))} {T : List UInt8} : Few (lineD D L T) (lineL D L T) := by
  unfold lineD lineL
  by_cases h : deskB D L = true
  · rw [if_pos h, if_pos h]; exact few_desk (ln_desk h _)
  · rw [if_neg h, if_neg h]; exact few_none
/-- two blocks of desks -/
def Bk2 (m8 m10 : Nat) (a8 b8 a10 b10 : Value) (W : World) : Prop :=
  W.heap[m8]? = some (.cells #[a8, b8] 26 (0, 0)) ∧ W.heap[m10]? = some (.cells #[a10, b10] 26 (0, 0))
theorem Bk2.ext {m8 m10 : Nat} {a8 b8 a10 b10 : Value} {W W' : World} (h : Bk2 m8 m10 a8 b8 a10 b10 W) (k : Ext W W') : Bk2 m8 m10 a8 b8 a10 b10 W' :=
  ⟨(k.block (heap_lt h.1)).trans h.1, (k.block (heap_lt h.2)).trans h.2⟩
theorem Bk2.extS {S : Nat → Prop} {m8 m10 : Nat} {a8 b8 a10 b10 : Value} {W W' : World} (h : Bk2 m8 m10 a8 b8 a10 b10 W) (k : ExtS S W W') (hI : ∀ g, S g → ∃ cs, W.heap[g]? = some (.cells cs 3 (0, 0))) : Bk2 m8 m10 a8 b8 a10 b10 W' :=
  ⟨k.block h.1 hI (by decide), k.block h.2 hI (by decide)⟩
set_option maxRecDepth 100000 in
set_option maxHeartbeats 8000000 in
theorem FnExactDeskLine_walk (A : Option Addr) (c : Nat) (D : List (List Int)) (B : Option Addr) (d : Nat) (L : List (List (List Int))) (T : List UInt8) (w : World) (h1 : Mat w A c D) (h2 : MatS w B d L) (hE : Env w) (ht : Tab w) :
    Calls Tryz.prog 4 #[.agg #[.slice A D.length c, .slice B L.length d], .string ⟨T.toArray⟩] w fun e w' => e = .returned (.bool true) ∧ Ext w w' := by
  have H1 := Lib.hid h1
  have H2 := Lib.hid h2
  have htsz := tx_size T
  by_cases hl : T.length ≤ 1048576
  rotate_left
  · have hl' : (1048576 : Int) < (T.length : Nat) := by omega
    clear h1 h2 hE ht
    go_enter Tryz.func4, Tryz.ntmps4
    go_wp2_with fail
    go_ret
    exact ⟨rfl, by repeat (first | exact Ext.refl _ | apply Ext.alloc')⟩
  have hl' : ¬ (1048576 : Int) < (T.length : Nat) := by omega
  have hb0 := heap_alloc_new w (.cells #[.slice A D.length c, .slice B L.length d] 38)
  obtain ⟨w0, hw0⟩ : ∃ W, w.alloc (.cells #[.slice A D.length c, .slice B L.length d] 38) = W := ⟨_, rfl⟩
  have hx0 : Ext w w0 := by rw [← hw0]; exact Ext.alloc _ _
  rw [hw0] at hb0
  have HKB := Lib.hid (fun W (q : Ext w0 W) => two_cells ((q.block (heap_lt hb0)).trans hb0))
  have HX0 := Lib.hid hx0
  obtain ⟨p0, p1⟩ := two_cells hb0
  have HSL := Lib.hid (fun W A B c d (q1 : Mat W A c D) (q2 : MatS W B d L) => sDeskLine_any A B c d D L T W q1 q2 hl)
  have HIL := Lib.hid (fun W A B c d (q1 : Mat W A c D) (q2 : MatS W B d L) (q : Ext w W) => iDeskLine_say A B c d D L T W q1 q2 hl (hE.ext q) (ht.ext q))
  have HFV := Lib.hid (few_line (D := D) (L := L) (T := T))
  obtain ⟨D', hD'⟩ : ∃ x, lineD D L T = x := ⟨_, rfl⟩
  obtain ⟨L', hL'⟩ : ∃ x, lineL D L T = x := ⟨_, rfl⟩
  obtain ⟨TT, hTT'⟩ : ∃ x, sayT D L T = x := ⟨_, rfl⟩
  rw [hD', hL', hTT'] at HSL HIL
  rw [hD', hL'] at HFV
  have hTT : (TT == TT) = true := beq_self_eq_true TT
  clear h1 h2 hb0 hx0 hE ht hD' hL' hTT'
  go_enter Tryz.func4, Tryz.ntmps4
  go_wp2_with fail
  refine (szDesk_any A B c d D L _ (H1.out.ext HX0.out) (H2.out.ext HX0.out)).mono ?_
  rintro e w1 ⟨rfl, hx1⟩
  by_cases hsz : szDk D L 1048576 < 0
  · go_wp2
    go_ret
    exact ⟨rfl, HX0.out.trans hx1⟩
  obtain ⟨hsm, hfew, hle⟩ := few_sz hsz
  have HSM := Lib.hid hsm
  have HFEW := Lib.hid hfew
  have hTD := Lib.hid (fun W (q : Ext w W) => toDesk_v A B c d D L W (H1.out.ext q) (H2.out.ext q) HSM.out.1 HSM.out.2.1 HSM.out.2.2)
  have HX1 := Lib.hid hx1
  clear p0 p1 hsm hfew hle
  obtain ⟨p0, p1⟩ := HKB.out w1 hx1
  clear hx1
  go_wp2_with fail
  refine (hTD.out _ (HX0.out.trans HX1.out)).mono ?_
  rintro e w2 ⟨v2, Z2, V2, rfl, hV2, -, hx2⟩
  obtain ⟨A2, c2, B2, d2, rfl, hM2, hS2⟩ := hV2.desk
  have HC2 := Lib.hid (HSL.out w2 A2 B2 c2 d2 hM2 hS2)
  have HX2 := Lib.hid (HX1.out.trans hx2)
  clear hV2 hM2 hS2 hx2 p0 p1
  go_wp2_with fail
  refine HC2.out.mono ?_
  rintro e w3 ⟨A6, c6, B6, d6, rfl, hF3, hx3⟩
  unfold tx
  obtain ⟨wc, hwc⟩ : ∃ W, w3.alloc (.cells #[.slice A6 D'.length c6, .slice B6 L'.length d6] 26) = W := ⟨_, rfl⟩
  have hx3c : Ext w3 wc := by rw [← hwc]; exact Ext.alloc _ _
  have hb6 := heap_alloc_new w3 (.cells #[.slice A6 D'.length c6, .slice B6 L'.length d6] 26)
  rw [hwc] at hb6
  have HXc := Lib.hid (HX2.out.trans (hx3.trans hx3c))
  have HK6 := Lib.hid (fun W (q : Ext wc W) => two_cells ((q.block (heap_lt hb6)).trans hb6))
  have HW0 := Lib.hid (fun W (q : Ext wc W) => And.intro (hF3.now.1.ext (hx3c.trans q)) (hF3.now.2.ext (hx3c.trans q)))
  obtain ⟨p0, p1⟩ := HKB.out wc HXc.out
  clear hF3 hx3 hx3c hb6
  go_wp2_with fail
  refine (hTD.out _ (HX0.out.trans HXc.out)).mono ?_
  rintro e w4 ⟨v4, Z4, V4, rfl, hV4, hL4, hx4⟩
  obtain ⟨A4, c4, B4, d4, rfl, hM4, hS4⟩ := hV4.desk
  obtain ⟨w5, hw5⟩ : ∃ W, w4.alloc (.cells #[.slice A4 D.length c4, .slice B4 L.length d4] 26) = W := ⟨_, rfl⟩
  have hx45 : Ext w4 w5 := by rw [← hw5]; exact Ext.alloc _ _
  have b8 := heap_alloc_new w4 (.cells #[.slice A4 D.length c4, .slice B4 L.length d4] 26)
  rw [hw5] at b8
  have hxc5 : Ext wc w5 := hx4.trans hx45
  have HV4 := Lib.hid (And.intro hV4 (And.intro hL4 (And.intro hM4 hS4)))
  have HI5 := Lib.hid (HIL.out w5 A4 B4 c4 d4 (hM4.ext hx45) (hS4.ext hx45) (HX0.out.trans (HXc.out.trans hxc5)))
  obtain ⟨z0, z1⟩ := two_cells b8
  clear p0 p1 hV4 hL4 hM4 hS4
  go_wp2_with fail
  refine HI5.out.mono ?_
  rintro e w8 ⟨v8, rfl, hO8, hx8⟩
  obtain ⟨A8, c8, B8, d8, rfl, -, -, -, -⟩ := hO8.split
  unfold tx
  obtain ⟨w9, hw9⟩ : ∃ W, w8.alloc (.cells #[.slice A8 D'.length c8, .slice B8 L'.length d8] 26) = W := ⟨_, rfl⟩
  have hx89 : Ext w8 w9 := by rw [← hw9]; exact Ext.alloc _ _
  have b10 := heap_alloc_new w8 (.cells #[.slice A8 D'.length c8, .slice B8 L'.length d8] 26)
  rw [hw9] at b10
  have hx59 : Ext w5 w9 := hx8.trans hx89
  have HO8 := Lib.hid hO8
  have HBK := Lib.hid (show Bk2 w4.heap.size w8.heap.size (.slice A4 D.length c4) (.slice B4 L.length d4) (.slice A8 D'.length c8) (.slice B8 L'.length d8) w9 from ⟨(hx59.block (heap_lt b8)).trans b8, b10⟩)
  have hxc9 : Ext wc w9 := hxc5.trans hx59
  have HSZ := Lib.hid (show wc.heap.size ≤ w4.heap.size ∧ w4.heap.size ≤ w5.heap.size ∧ w5.heap.size ≤ w8.heap.size from ⟨hx4.size, hx45.size, hx8.size⟩)
  obtain ⟨m8, hm8⟩ : ∃ m, w4.heap.size = m := ⟨_, rfl⟩
  obtain ⟨m10, hm10⟩ : ∃ m, w8.heap.size = m := ⟨_, rfl⟩
  have HX49 := Lib.hid (show Ext w4 w9 from hx45.trans hx59)
  have HX89 := Lib.hid hx89
  rw [hm8, hm10] at HBK
  clear z0 z1 hO8 b8 b10 hw5
  obtain ⟨z0, z1⟩ := two_cells HBK.out.2
  obtain ⟨u0, u1⟩ := HK6.out w9 hxc9
  have HQ9 := Lib.hid (eqDesk_any A8 B8 A6 B6 c8 d8 c6 d6 D' L' w9 (HO8.out.same.1.ext hx89) (HO8.out.same.2.ext hx89) (HW0.out w9 hxc9).1 (HW0.out w9 hxc9).2)
  go_wp2_with fail
  refine HQ9.out.mono ?_
  rintro e w10 ⟨rfl, hx10⟩
  clear z0 z1 u0 u1 hw9 HQ9
  have hxc10 : Ext wc w10 := hxc9.trans hx10
  have HB10 := Lib.hid (HBK.out.ext hx10)
  have HXC := Lib.hid hxc10
  have HX910 := Lib.hid hx10
  clear hm8 hm10 hx45 hx4 hx8 hx89 hx59 hxc5 hxc9 hx10
  have hxw10 : Ext w w10 := HX0.out.trans (HXc.out.trans hxc10)
  go_upto_region 12 with fail
  go_cut [52] (fun s52 wx => s52 = .bool false ∧ Hid (Ext w10 wx))
  case first =>
    obtain ⟨p0, p1⟩ := HKB.out w10 (HXc.out.trans hxc10)
    obtain ⟨z0, z1⟩ := two_cells HB10.out.1
    go_wp2_with fail
    go_region_law (first | (go_simp; go_at_call 19; (fail_if_success (have q := hV20)); refine (hTD.out _ (hxw10.trans (by repeat (first | exact Ext.refl _ | apply Ext.drew' | apply Ext.alloc')))).mono ?_; rintro e w20 ⟨v20, Z20, V20, rfl, hV20, -, hX20⟩; have HX20 := Lib.hid (show Ext w10 w20 from Ext.trans (by repeat (first | exact Ext.refl _ | apply Ext.drew' | apply Ext.alloc')) hX20); obtain ⟨A20, c20, B20, d20, rfl, hM20, hS20⟩ := hV20.desk; obtain ⟨a0, a1⟩ := two_cells (HB10.out.ext HX20.out).1) | (go_simp; go_at_call 20; refine (eqDesk_any A4 B4 A20 B20 c4 d4 c20 d20 D L w20 (HV4.out.2.2.1.ext ((HX49.out.trans HX910.out).trans HX20.out)) (HV4.out.2.2.2.ext ((HX49.out.trans HX910.out).trans HX20.out)) hM20 hS20).mono ?_; rintro e w21 ⟨rfl, hX21⟩))
    all_goals
      go_wp2_with fail
      go_meet
      case rel => exact ⟨rfl, Lib.hid (HX20.out.trans hX21)⟩
  case rest =>
    obtain ⟨rfl, HX11⟩ := hcut
    obtain ⟨w12, hw12⟩ : ∃ W, W = wc := ⟨_, rfl⟩
    subst hw12
    have HXA := Lib.hid (HX910.out.trans HX11.out)
    have hxcA : Ext wc w12 := hxc10.trans HX11.out
    have HBA := Lib.hid (HBK.out.ext HXA.out)
    have HVA := Lib.hid (HV4.out.1.ext (HX49.out.trans HXA.out))
    have hsA := hxcA.size
    have hs9 := HXA.out.size
    have hs89 := HX89.out.size
    obtain ⟨sz1, sz2, sz3⟩ := HSZ.out
    -- the marks of the argument
    obtain ⟨z0, z1⟩ := two_cells HBA.out.1
    have HMK := Lib.hid (markDesk_v (.agg #[.slice A4 D.length c4, .slice B4 L.length d4]) D L Z4 V4 1 w12 HVA.out (by omega) (by omega) HFEW.out.1 HFEW.out.2.1 HFEW.out.2.2.1 HFEW.out.2.2.2)
    go_wp2_with fail
    refine HMK.out.mono ?_
    rintro e wB ⟨rfl, -, hSB⟩
    have hIB : ∀ g, LD D L Z4 V4 g → ∃ cs, w12.heap[g]? = some (.cells cs 3 (0, 0)) := fun g hg => HVA.out.isI hg
    have hLB : ∀ g, LD D L Z4 V4 g → wc.heap.size ≤ g ∧ g < w4.heap.size := fun g hg => ⟨HV4.out.2.1 g hg, HV4.out.1.lt hg⟩
    have HBB := Lib.hid (HBA.out.extS hSB hIB)
    have hxcB : Ext wc wB := hSB.ext hxcA fun g hg => (hLB g hg).1
    have HOB := Lib.hid ((HO8.out.keep (KeepB.of_ext (HX89.out.trans HXA.out))).extS hSB fun g hg => by have := (hLB g hg).2; omega)
    have hsB : w12.heap.size ≤ wB.heap.size := hSB.2.2.2.1
    obtain ⟨k1, hk1⟩ : ∃ k : Int, 1 + (total D : Nat) + (preS L L.length : Nat) = k ∧ 1 ≤ k ∧ k ≤ 30000000 := ⟨_, rfl, by have := HFEW.out.2.1; have := HFEW.out.2.2.1; omega, by have := HFEW.out.2.1; have := HFEW.out.2.2.1; omega⟩
    rw [hk1.1]
    obtain ⟨-, hk1a, hk1b⟩ := hk1
    have hk1p : ¬ k1 < 0 := by omega
    clear z0 z1 HMK hSB hIB hLB
    obtain ⟨z0, z1⟩ := two_cells HBB.out.2
    obtain ⟨u0, u1⟩ := HK6.out wB hxcB
    have HQC := Lib.hid (eqDesk_any A8 B8 A6 B6 c8 d8 c6 d6 D' L' wB HOB.out.same.1 HOB.out.same.2 (HW0.out wB hxcB).1 (HW0.out wB hxcB).2)
    go_wp2_with fail
    refine HQC.out.mono ?_
    rintro e wC' ⟨rfl, hxC'⟩
    clear z0 z1 u0 u1 HQC
    have HBC' := Lib.hid (HBB.out.ext hxC')
    have hxcC' : Ext wc wC' := hxcB.trans hxC'
    have HOC' := Lib.hid (HOB.out.keep (KeepB.of_ext hxC'))
    -- the marks of the result
    obtain ⟨Z8, V8, hV8, hlo8⟩ := HOC'.out.leaves
    obtain ⟨z0, z1⟩ := two_cells HBC'.out.2
    have HMK := Lib.hid (markDesk_v (.agg #[.slice A8 D'.length c8, .slice B8 L'.length d8]) D' L' Z8 V8 1 wC' hV8 (by omega) (by omega) HFV.out.1 HFV.out.2.1 HFV.out.2.2.1 HFV.out.2.2.2)
    have HV8 := Lib.hid (And.intro hV8 hlo8)
    clear hV8 hlo8
    go_wp2_with fail
    refine HMK.out.mono ?_
    rintro e wD ⟨rfl, hVD, hSD⟩
    have hID : ∀ g, LD D' L' Z8 V8 g → ∃ cs, wC'.heap[g]? = some (.cells cs 3 (0, 0)) := fun g hg => HV8.out.1.isI hg
    have HBD := Lib.hid (HBC'.out.extS hSD hID)
    have hxcD : Ext wc wD := hSD.ext hxcC' fun g hg => by have := HV8.out.2 g hg; omega
    have HVD := Lib.hid hVD
    obtain ⟨k3, hk3⟩ : ∃ k : Int, 1 + (total D' : Nat) + (preS L' L'.length : Nat) = k ∧ 1 ≤ k := ⟨_, rfl, by omega⟩
    have HH := Lib.hid (fun W (q : Ext wD W) => heldDesk_v (.agg #[.slice A8 D'.length c8, .slice B8 L'.length d8]) D' L' Z8 V8 1 W (HVD.out.ext q) (by omega) (by omega) HFV.out.1 HFV.out.2.1 HFV.out.2.2.1 HFV.out.2.2.2)
    rw [hk3.1] at HH ⊢
    have hk3p : ¬ k3 < 0 := by have := hk3.2; omega
    clear z0 z1 HMK hVD hSD hID hk3
    obtain ⟨z0, z1⟩ := two_cells HBD.out.2
    go_wp2_with fail
    refine (HH.out wD (Ext.refl _)).mono ?_
    rintro e wE ⟨rfl, hxE⟩
    clear z0 z1
    have HBE := Lib.hid (HBD.out.ext hxE)
    have hxcE : Ext wc wE := hxcD.trans hxE
    have HXDE := Lib.hid hxE
    have hx0E : Ext w0 wE := HXc.out.trans hxcE
    obtain ⟨p0, p1⟩ := HKB.out wE hx0E
    clear hxE
    go_wp2_with fail
    refine (hTD.out _ (HX0.out.trans hx0E)).mono ?_
    rintro e w20 ⟨v20, Z20, V20, rfl, hV20, -, hX20⟩
    obtain ⟨A20, c20, B20, d20, rfl, hM20, hS20⟩ := hV20.desk
    have HI20 := Lib.hid (HIL.out w20 A20 B20 c20 d20 hM20 hS20 (HX0.out.trans (hx0E.trans hX20)))
    have HX20 := Lib.hid hX20
    clear hV20 hM20 hS20 hX20 p0 p1
    go_wp2_with fail
    refine HI20.out.mono ?_
    rintro e w21 ⟨v21, rfl, hO21, hx21⟩
    obtain ⟨A21, c21, B21, d21, rfl, -, -, -, -⟩ := hO21.split
    unfold tx
    obtain ⟨w22, hw22⟩ : ∃ W, w21.alloc (.cells #[.slice A21 D'.length c21, .slice B21 L'.length d21] 26) = W := ⟨_, rfl⟩
    have hx2122 : Ext w21 w22 := by rw [← hw22]; exact Ext.alloc _ _
    have b22 := heap_alloc_new w21 (.cells #[.slice A21 D'.length c21, .slice B21 L'.length d21] 26)
    rw [hw22] at b22
    have hxE22 : Ext wE w22 := HX20.out.trans (hx21.trans hx2122)
    obtain ⟨u0, u1⟩ := HK6.out w22 (hxcE.trans hxE22)
    obtain ⟨t0, t1⟩ := two_cells b22
    have HQF := Lib.hid (eqDesk_any A21 B21 A6 B6 c21 d21 c6 d6 D' L' w22 (hO21.same.1.ext hx2122) (hO21.same.2.ext hx2122) (HW0.out w22 (hxcE.trans hxE22)).1 (HW0.out w22 (hxcE.trans hxE22)).2)
    have HXE22 := Lib.hid hxE22
    clear b22 hO21 hx21 hx2122 hxE22
    go_wp2_with fail
    refine HQF.out.mono ?_
    rintro e wG ⟨rfl, hxG⟩
    clear u0 u1 t0 t1
    have hxEG : Ext wE wG := HXE22.out.trans hxG
    obtain ⟨z0, z1⟩ := two_cells (HBE.out.ext hxEG).2
    have HXG := Lib.hid (HX0.out.trans (hx0E.trans hxEG))
    go_wp2_with fail
    refine (HH.out wG (HXDE.out.trans hxEG)).mono ?_
    rintro e wH ⟨rfl, hxH⟩
    go_wp2
    go_ret
    exact ⟨rfl, HXG.out.trans hxH⟩
end Go.Proofs.YtcejdgnfmcgopaaGreatDoor
