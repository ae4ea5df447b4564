/- What is proved: the walk of the law FnExactDeskSay. Conditions: those of the contract. -/
import Derived.Test.YtcejdgnfmcgopaaGreatDoorSayS
import Derived.Test.YtcejdgnfmcgopaaGreatDoorTs2
import Derived.Deep.DeepCutAuto
import Derived.Deep.RegionLaw
namespace Go.Proofs.YtcejdgnfmcgopaaGreatDoor
open Go.RowKit
theorem few_say {D : List (List Int)} {L : List (List (List Int))} {ts : List (List UInt8)} : Few (sayV D L ts).1 (sayV D L ts).2.1 ∧ (sayV D L ts).2.2.length ≤ 40 := by
  unfold sayV
  by_cases h : deskB D L = true ∧ ts.length ≤ 40
  · rw [if_pos h]; exact ⟨few_desk (sayL_desk ts h.1), by rw [sayL_len]; exact h.2⟩
  · rw [if_neg h]; exact ⟨few_none, Nat.zero_le _⟩
theorem LeafT.marked {w : World} {A : Option Addr} {c : Nat} {k : Int} {ts : List (List UInt8)} (h : LeafT w (.slice A ts.length c) (markT k ts)) : Txts w A c (markT k ts) := by
  obtain ⟨A', c', e, hI⟩ := h.txts
  injection e with e1 e2 e3
  subst e1; subst e3
  exact hI
/-- two blocks of desks -/
def Bk2 (m8 m10 : Nat) (a8 b8 a10 b10 : Value) (W : World) : Prop :=
  W.heap[m8]? = some (.cells #[a8, b8] 26 (0, 0)) ∧ W.heap[m10]? = some (.cells #[a10, b10] 26 (0, 0))
theorem Bk2.ext {m8 m10 : Nat} {a8 b8 a10 b10 : Value} {W W' : World} (h : Bk2 m8 m10 a8 b8 a10 b10 W) (k : Ext W W') : Bk2 m8 m10 a8 b8 a10 b10 W' :=
  ⟨(k.block (heap_lt h.1)).trans h.1, (k.block (heap_lt h.2)).trans h.2⟩
theorem Bk2.extS {S : Nat → Prop} {m8 m10 : Nat} {a8 b8 a10 b10 : Value} {W W' : World} (h : Bk2 m8 m10 a8 b8 a10 b10 W) (k : ExtS S W W') (hI : ∀ g, S g → ∃ cs, W.heap[g]? = some (.cells cs 3 (0, 0))) : Bk2 m8 m10 a8 b8 a10 b10 W' :=
  ⟨k.block h.1 hI (by decide), k.block h.2 hI (by decide)⟩
theorem Bk2.extT {S : Nat → Prop} {m8 m10 : Nat} {a8 b8 a10 b10 : Value} {W W' : World} (h : Bk2 m8 m10 a8 b8 a10 b10 W) (k : ExtS S W W') (hI : ∀ g, S g → ∃ cs, W.heap[g]? = some (.cells cs 9 (0, 0))) : Bk2 m8 m10 a8 b8 a10 b10 W' :=
  ⟨k.blockT h.1 hI (by decide), k.blockT h.2 hI (by decide)⟩
set_option maxRecDepth 100000 in
set_option maxHeartbeats 8000000 in
theorem FnExactDeskSay_walk (A : Option Addr) (c : Nat) (D : List (List Int)) (B : Option Addr) (d : Nat) (L : List (List (List Int))) (X : Option Addr) (cx : Nat) (ts : List (List UInt8)) (w : World) (h1 : Mat w A c D) (h2 : MatS w B d L) (h3 : TxW w X cx ts) (hE : Env w) (ht : Tab w) :
    Calls Tryz.prog 5 #[.agg #[.slice A D.length c, .slice B L.length d], .slice X ts.length cx] w fun e w' => e = .returned (.bool true) ∧ Ext w w' := by
  have H1 := Lib.hid h1
  have H2 := Lib.hid h2
  have H3 := Lib.hid h3
  have hb0 := heap_alloc_new w (.cells #[.slice A D.length c, .slice B L.length d] 38)
  obtain ⟨w0, hw0⟩ : ∃ W, w.alloc (.cells #[.slice A D.length c, .slice B L.length d] 38) = W := ⟨_, rfl⟩
  have hx0 : Ext w w0 := by rw [← hw0]; exact Ext.alloc _ _
  rw [hw0] at hb0
  have HKB := Lib.hid (fun W (q : Ext w0 W) => two_cells ((q.block (heap_lt hb0)).trans hb0))
  have HX0 := Lib.hid hx0
  obtain ⟨p0, p1⟩ := two_cells hb0
  have HSL := Lib.hid (fun (hlt : ∀ i, i < ts.length → (ts.getD i []).length ≤ 1048576) W A B c d X cx (q1 : Mat W A c D) (q2 : MatS W B d L) (q3 : Txts W X cx ts) => sDeskSay_any A B c d D L X cx ts W q1 q2 q3 hlt)
  have HIL := Lib.hid (fun (hlt : ∀ i, i < ts.length → (ts.getD i []).length ≤ 1048576) W A B c d X cx (q1 : Mat W A c D) (q2 : MatS W B d L) (q3 : Txts W X cx ts) (q : Ext w W) => iDeskSay_any A B c d D L X cx ts W q1 q2 q3 hlt (hE.ext q) (ht.ext q))
  have HFV := Lib.hid (few_say (D := D) (L := L) (ts := ts))
  obtain ⟨D', hD'⟩ : ∃ x, (sayV D L ts).1 = x := ⟨_, rfl⟩
  obtain ⟨L', hL'⟩ : ∃ x, (sayV D L ts).2.1 = x := ⟨_, rfl⟩
  obtain ⟨us, hus⟩ : ∃ x, (sayV D L ts).2.2 = x := ⟨_, rfl⟩
  rw [hD', hL', hus] at HSL HIL HFV
  clear h1 h2 h3 hb0 hx0 hE ht hD' hL' hus
  go_enter Tryz.func5, Tryz.ntmps5
  go_wp2_with fail
  refine (szDesk_any A B c d D L _ (H1.out.ext HX0.out) (H2.out.ext HX0.out)).mono ?_
  rintro e w1 ⟨rfl, hx1⟩
  by_cases hsz : szDk D L 1048576 < 0
  · go_wp2
    go_ret
    exact ⟨rfl, HX0.out.trans hx1⟩
  obtain ⟨hsm, hfew, hle⟩ := few_sz hsz
  have HSM := Lib.hid hsm
  have HFEW := Lib.hid hfew
  obtain ⟨l0, hl0⟩ : ∃ l, szDk D L 1048576 = l := ⟨_, rfl⟩
  rw [hl0] at hle hsz ⊢
  have hl0' : 0 ≤ l0 := by omega
  clear hl0 hsm hfew
  go_wp2_with fail
  refine (szStringS_any X cx ts l0 _ (H3.out.ext (HX0.out.trans hx1)) hl0' hle).mono ?_
  rintro e w1' ⟨rfl, hx1'⟩
  by_cases hst : szT ts l0 < 0
  · go_wp2
    go_ret
    exact ⟨rfl, (HX0.out.trans hx1).trans hx1'⟩
  obtain ⟨htn, hlt⟩ := szT_spec hle hst
  have HTN := Lib.hid htn
  have HSP := Lib.hid (HSL.out hlt)
  have HIP := Lib.hid (HIL.out hlt)
  have hTD := Lib.hid (fun W (q : Ext w W) => toDesk_v A B c d D L W (H1.out.ext q) (H2.out.ext q) HSM.out.1 HSM.out.2.1 HSM.out.2.2)
  have hTT := Lib.hid (fun W (q : Ext w W) => toStringS_any X cx ts W (H3.out.ext q) HTN.out)
  have HX1 := Lib.hid (hx1.trans hx1')
  clear p0 p1 htn hlt HSL HIL hle hl0'
  obtain ⟨p0, p1⟩ := HKB.out w1' (hx1.trans hx1')
  clear hx1 hx1'
  go_wp2_with fail
  refine (hTD.out _ (HX0.out.trans HX1.out)).mono ?_
  rintro e w2 ⟨v2, Z2, V2, rfl, hV2, -, hx2⟩
  obtain ⟨A2, c2, B2, d2, rfl, hM2, hS2⟩ := hV2.desk
  have HX2 := Lib.hid (HX1.out.trans hx2)
  have HM2 := Lib.hid (And.intro hM2 hS2)
  clear hV2 hM2 hS2 hx2 p0 p1
  go_wp2_with fail
  refine (hTT.out _ (HX0.out.trans HX2.out)).mono ?_
  rintro e w2t ⟨v3, rfl, hl3, -, hx2t⟩
  obtain ⟨X3, c3, rfl, hT3⟩ := hl3.txts
  have HC2 := Lib.hid (HSP.out w2t A2 B2 c2 d2 X3 c3 (HM2.out.1.ext hx2t) (HM2.out.2.ext hx2t) hT3)
  have HX2t := Lib.hid (HX2.out.trans hx2t)
  clear hl3 hT3 hx2t
  go_wp2_with fail
  refine HC2.out.mono ?_
  rintro e w3 ⟨A6, c6, B6, d6, v7, rfl, hM6, hS6, hu6, hx3⟩
  obtain ⟨hl7, -⟩ := LeafT.of_own hu6
  obtain ⟨X7, c7, rfl, hT7⟩ := hl7.txts
  obtain ⟨wc, hwc⟩ : ∃ W, w3.alloc (.cells #[.slice A6 D'.length c6, .slice B6 L'.length d6] 26) = W := ⟨_, rfl⟩
  have hx3c : Ext w3 wc := by rw [← hwc]; exact Ext.alloc _ _
  have hb6 := heap_alloc_new w3 (.cells #[.slice A6 D'.length c6, .slice B6 L'.length d6] 26)
  rw [hwc] at hb6
  have HXc := Lib.hid (HX2t.out.trans (hx3.trans hx3c))
  have HK6 := Lib.hid (fun W (q : Ext wc W) => two_cells ((q.block (heap_lt hb6)).trans hb6))
  have HW0 := Lib.hid (fun W (q : Ext wc W) => And.intro (hM6.ext (hx3c.trans q)) (And.intro (hS6.ext (hx3c.trans q)) (hT7.ext (hx3c.trans q))))
  obtain ⟨p0, p1⟩ := HKB.out wc HXc.out
  clear hM6 hS6 hu6 hl7 hT7 hx3 hx3c hb6
  go_wp2_with fail
  refine (hTD.out _ (HX0.out.trans HXc.out)).mono ?_
  rintro e w4 ⟨v4, Z4, V4, rfl, hV4, hL4, hx4⟩
  obtain ⟨A4, c4, B4, d4, rfl, hM4, hS4⟩ := hV4.desk
  obtain ⟨w5, hw5⟩ : ∃ W, w4.alloc (.cells #[.slice A4 D.length c4, .slice B4 L.length d4] 26) = W := ⟨_, rfl⟩
  have hx45 : Ext w4 w5 := by rw [← hw5]; exact Ext.alloc _ _
  have b8 := heap_alloc_new w4 (.cells #[.slice A4 D.length c4, .slice B4 L.length d4] 26)
  rw [hw5] at b8
  have hxc5 : Ext wc w5 := hx4.trans hx45
  have HV4 := Lib.hid (And.intro hV4 (And.intro hL4 (And.intro hM4 hS4)))
  have HXc5 := Lib.hid hxc5
  have HX45 := Lib.hid hx45
  have HB8 := Lib.hid b8
  have HSZ0 := Lib.hid (show wc.heap.size ≤ w4.heap.size ∧ w4.heap.size ≤ w5.heap.size from ⟨hx4.size, hx45.size⟩)
  clear p0 p1 hV4 hL4 hM4 hS4 hxc5 hx4 hx45 b8
  go_wp2_with fail
  refine (hTT.out _ (HX0.out.trans (HXc.out.trans HXc5.out))).mono ?_
  rintro e w5t ⟨v9, rfl, hl9, hn9, hx5t⟩
  obtain ⟨X9, c9, rfl, hT9⟩ := hl9.txts
  have HT9 := Lib.hid (And.intro hl9 hn9)
  have HI5 := Lib.hid (HIP.out w5t A4 B4 c4 d4 X9 c9 (HV4.out.2.2.1.ext (HX45.out.trans hx5t)) (HV4.out.2.2.2.ext (HX45.out.trans hx5t)) hT9 (HX0.out.trans (HXc.out.trans (HXc5.out.trans hx5t))))
  obtain ⟨z0, z1⟩ := two_cells ((hx5t.block (heap_lt HB8.out)).trans HB8.out)
  have HX5t := Lib.hid hx5t
  clear hl9 hn9 hT9 hx5t
  go_wp2_with fail
  refine HI5.out.mono ?_
  rintro e w8 ⟨v8, v11, rfl, hO8, hu8, hx8⟩
  obtain ⟨A8, c8, B8, d8, rfl, -, -, -, -⟩ := hO8.split
  obtain ⟨hl11, hn11⟩ := LeafT.of_own hu8
  obtain ⟨X11, c11, rfl, -⟩ := hl11.txts
  obtain ⟨w9, hw9⟩ : ∃ W, w8.alloc (.cells #[.slice A8 D'.length c8, .slice B8 L'.length d8] 26) = W := ⟨_, rfl⟩
  have hx89 : Ext w8 w9 := by rw [← hw9]; exact Ext.alloc _ _
  have b10 := heap_alloc_new w8 (.cells #[.slice A8 D'.length c8, .slice B8 L'.length d8] 26)
  rw [hw9] at b10
  have hx59 : Ext w5 w9 := HX5t.out.trans (hx8.trans hx89)
  have HO8 := Lib.hid hO8
  have HT11 := Lib.hid (And.intro hl11 hn11)
  have HBK := Lib.hid (show Bk2 w4.heap.size w8.heap.size (.slice A4 D.length c4) (.slice B4 L.length d4) (.slice A8 D'.length c8) (.slice B8 L'.length d8) w9 from ⟨(hx59.block (heap_lt HB8.out)).trans HB8.out, b10⟩)
  have hxc9 : Ext wc w9 := HXc5.out.trans hx59
  have HSZ := Lib.hid (show wc.heap.size ≤ w4.heap.size ∧ w4.heap.size ≤ w5.heap.size ∧ w5.heap.size ≤ w5t.heap.size ∧ w5t.heap.size ≤ w8.heap.size from ⟨HSZ0.out.1, HSZ0.out.2, HX5t.out.size, hx8.size⟩)
  obtain ⟨m8, hm8⟩ : ∃ m, w4.heap.size = m := ⟨_, rfl⟩
  obtain ⟨m10, hm10⟩ : ∃ m, w8.heap.size = m := ⟨_, rfl⟩
  have HX49 := Lib.hid (show Ext w4 w9 from HX45.out.trans hx59)
  have HX89 := Lib.hid hx89
  have HX5t9 := Lib.hid (show Ext w5t w9 from hx8.trans hx89)
  rw [hm8, hm10] at HBK
  clear z0 z1 hO8 hu8 hl11 hn11 b10 hw5
  obtain ⟨z0, z1⟩ := two_cells HBK.out.2
  obtain ⟨u0, u1⟩ := HK6.out w9 hxc9
  have HQ9 := Lib.hid (eqDesk_any A8 B8 A6 B6 c8 d8 c6 d6 D' L' w9 (HO8.out.same.1.ext hx89) (HO8.out.same.2.ext hx89) (HW0.out w9 hxc9).1 (HW0.out w9 hxc9).2.1)
  go_wp2_with fail
  refine HQ9.out.mono ?_
  rintro e w10 ⟨rfl, hx10⟩
  clear z0 z1 u0 u1 hw9 HQ9
  have hxc10 : Ext wc w10 := hxc9.trans hx10
  have HX910 := Lib.hid hx10
  have HXc10 := Lib.hid hxc10
  clear hm8 hm10 hx8 hx89 hx59 hxc9 hx10 hxc10
  go_wp2_with fail
  refine (eqStringS_any X11 X7 c11 c7 us w10 (Txts.own (HT11.out.1.ext (HX89.out.trans HX910.out))) (HW0.out w10 HXc10.out).2.2).mono ?_
  rintro e w10t ⟨rfl, mm, rfl⟩
  obtain ⟨w10t, hw10t⟩ : ∃ W, w10.drewN mm = W := ⟨_, rfl⟩
  have hx10t : Ext w10 w10t := by rw [← hw10t]; exact Ext.drewN' (Ext.refl _) _
  rw [hw10t]
  have HB10 := Lib.hid (HBK.out.ext (HX910.out.trans hx10t))
  have HXC := Lib.hid (HXc10.out.trans hx10t)
  have HX9t := Lib.hid (HX910.out.trans hx10t)
  clear hx10t hw10t
  have hxw10 : Ext w w10t := HX0.out.trans (HXc.out.trans HXC.out)
  go_upto_region 14 with fail
  go_cut [59] (fun s59 wx => s59 = .bool false ∧ Hid (Ext w10t wx))
  case first =>
    obtain ⟨p0, p1⟩ := HKB.out w10t (HXc.out.trans HXC.out)
    obtain ⟨z0, z1⟩ := two_cells HB10.out.1
    go_wp2_with fail
    go_region_law (first | (go_simp; go_at_call 19; (fail_if_success (have q := hV20)); refine (hTD.out _ (hxw10.trans (by repeat (first | exact Ext.refl _ | apply Ext.drew' | apply Ext.alloc')))).mono ?_; rintro e w20 ⟨v20, Z20, V20, rfl, hV20, -, hX20⟩; have HX20 := Lib.hid (show Ext w10t w20 from Ext.trans (by repeat (first | exact Ext.refl _ | apply Ext.drew' | apply Ext.alloc')) hX20); obtain ⟨A20, c20, B20, d20, rfl, hM20, hS20⟩ := hV20.desk; obtain ⟨a0, a1⟩ := two_cells (HB10.out.ext HX20.out).1) | (go_simp; go_at_call 20; refine (eqDesk_any A4 B4 A20 B20 c4 d4 c20 d20 D L w20 (HV4.out.2.2.1.ext ((HX49.out.trans HX9t.out).trans HX20.out)) (HV4.out.2.2.2.ext ((HX49.out.trans HX9t.out).trans HX20.out)) hM20 hS20).mono ?_; rintro e w21 ⟨rfl, hX21⟩))
    all_goals
      go_wp2_with fail
      go_meet
      case rel => exact ⟨rfl, Lib.hid (HX20.out.trans hX21)⟩
  case rest =>
    obtain ⟨rfl, HX11⟩ := hcut
    obtain ⟨w12, hw12⟩ : ∃ W, W = wc := ⟨_, rfl⟩
    subst hw12
    have HXA := Lib.hid (HX9t.out.trans HX11.out)
    have hxcA : Ext wc w12 := HXC.out.trans HX11.out
    have HXcA := Lib.hid hxcA
    clear hxw10 hxcA
    -- the texts are as they were
    go_wp2_with fail
    refine (hTT.out _ (HX0.out.trans (HXc.out.trans HXcA.out))).mono ?_
    rintro e w13 ⟨v13, rfl, hl13, -, hx13⟩
    obtain ⟨X13, c13, rfl, hT13⟩ := hl13.txts
    have HQT := Lib.hid (eqStringS_any X9 X13 c9 c13 ts w13 (Txts.own (HT9.out.1.ext ((HX5t9.out.trans HXA.out).trans hx13))) hT13)
    have HX13 := Lib.hid hx13
    clear hl13 hT13 hx13
    go_wp2_with fail
    refine HQT.out.mono ?_
    rintro e w14 ⟨rfl, mm2, rfl⟩
    obtain ⟨w14, hw14⟩ : ∃ W, w13.drewN mm2 = W := ⟨_, rfl⟩
    have hx14 : Ext w13 w14 := by rw [← hw14]; exact Ext.drewN' (Ext.refl _) _
    rw [hw14]
    have HXB := Lib.hid (HXA.out.trans (HX13.out.trans hx14))
    have hxcB0 : Ext wc w14 := HXcA.out.trans (HX13.out.trans hx14)
    have HBA := Lib.hid (HBK.out.ext HXB.out)
    have HVA := Lib.hid (HV4.out.1.ext (HX49.out.trans HXB.out))
    have HTA := Lib.hid (HT9.out.1.ext (HX5t9.out.trans HXB.out))
    have HUA := Lib.hid (HT11.out.1.ext (HX89.out.trans HXB.out))
    have hsA := hxcB0.size
    have hs9 := HXB.out.size
    have hs89 := HX89.out.size
    obtain ⟨sz1, sz2, sz3, sz4⟩ := HSZ.out
    have hlt9 : ∀ g ∈ lb (.slice X9 ts.length c9), w5.heap.size ≤ g ∧ g < w5t.heap.size := fun g hg => ⟨HT9.out.2 g hg, HT9.out.1.lt hg⟩
    have HLT9 := Lib.hid hlt9
    clear hx14 hw14 hlt9
    -- the marks of the argument's desk
    obtain ⟨z0, z1⟩ := two_cells HBA.out.1
    have HMK := Lib.hid (markDesk_v (.agg #[.slice A4 D.length c4, .slice B4 L.length d4]) D L Z4 V4 1 w14 HVA.out (by omega) (by omega) HFEW.out.1 HFEW.out.2.1 HFEW.out.2.2.1 HFEW.out.2.2.2)
    go_wp2_with fail
    refine HMK.out.mono ?_
    rintro e wB ⟨rfl, -, hSB⟩
    have hIB : ∀ g, LD D L Z4 V4 g → ∃ cs, w14.heap[g]? = some (.cells cs 3 (0, 0)) := fun g hg => HVA.out.isI hg
    have hLB : ∀ g, LD D L Z4 V4 g → wc.heap.size ≤ g ∧ g < w4.heap.size := fun g hg => ⟨HV4.out.2.1 g hg, HV4.out.1.lt hg⟩
    have HBB := Lib.hid (HBA.out.extS hSB hIB)
    have hxcB : Ext wc wB := hSB.ext hxcB0 fun g hg => (hLB g hg).1
    have HOB := Lib.hid ((HO8.out.keep (KeepB.of_ext (HX89.out.trans HXB.out))).extS hSB fun g hg => by have := (hLB g hg).2; omega)
    have HTB := Lib.hid (HTA.out.extI hSB hIB)
    have HUB := Lib.hid (HUA.out.extI hSB hIB)
    have hsB : w14.heap.size ≤ wB.heap.size := hSB.2.2.2.1
    obtain ⟨k1, hk1⟩ : ∃ k : Int, 1 + (total D : Nat) + (preS L L.length : Nat) = k ∧ 1 ≤ k ∧ k ≤ 30000000 := ⟨_, rfl, by have := HFEW.out.2.1; have := HFEW.out.2.2.1; omega, by have := HFEW.out.2.1; have := HFEW.out.2.2.1; omega⟩
    rw [hk1.1]
    obtain ⟨-, hk1a, hk1b⟩ := hk1
    clear z0 z1 HMK hSB hIB hLB hxcB0
    -- the marks of the argument's texts
    have HMT := Lib.hid (markStringS_any X9 c9 ts k1 wB HTB.out (by omega) (by omega) (by have := HTN.out; omega))
    go_wp2_with fail
    refine HMT.out.mono ?_
    rintro e wB2 ⟨rfl, -, hSB2⟩
    have hIB2 := HTB.out.blocks
    have HBB2 := Lib.hid (HBB.out.extT hSB2 hIB2)
    have hxcB2 : Ext wc wB2 := hSB2.ext hxcB fun g hg => by have := (HLT9.out g hg).1; omega
    have HOB2 := Lib.hid (HOB.out.extS hSB2 fun g hg => (HLT9.out g hg).2)
    have HUB2 := Lib.hid (HUB.out.extS hSB2 fun g hg hS => by have := HT11.out.2 g hg; have := (HLT9.out g hS).2; omega)
    have hsB2 : wB.heap.size ≤ wB2.heap.size := hSB2.2.2.2.1
    have hkt : ts.length ≤ 1048576 := HTN.out
    have hk1p : ¬ k1 + (ts.length : Nat) < 0 := by omega
    clear HMT hSB2 hIB2 hkt hxcB
    obtain ⟨z0, z1⟩ := two_cells HBB2.out.2
    obtain ⟨u0, u1⟩ := HK6.out wB2 hxcB2
    have HQC := Lib.hid (eqDesk_any A8 B8 A6 B6 c8 d8 c6 d6 D' L' wB2 HOB2.out.same.1 HOB2.out.same.2 (HW0.out wB2 hxcB2).1 (HW0.out wB2 hxcB2).2.1)
    go_wp2_with fail
    refine HQC.out.mono ?_
    rintro e wC' ⟨rfl, hxC'⟩
    clear z0 z1 u0 u1 HQC
    have HBC' := Lib.hid (HBB2.out.ext hxC')
    have hxcC' : Ext wc wC' := hxcB2.trans hxC'
    have HOC' := Lib.hid (HOB2.out.keep (KeepB.of_ext hxC'))
    have HUC' := Lib.hid (HUB2.out.ext hxC')
    have HQU := Lib.hid (eqStringS_any X11 X7 c11 c7 us wC' (Txts.own HUC'.out) (HW0.out wC' hxcC').2.2)
    have HXcC := Lib.hid hxcC'
    clear hxC' hxcB2 hxcC'
    go_wp2_with fail
    refine HQU.out.mono ?_
    rintro e wC2 ⟨rfl, mm3, rfl⟩
    obtain ⟨wC2, hwC2⟩ : ∃ W, wC'.drewN mm3 = W := ⟨_, rfl⟩
    have hxC2 : Ext wC' wC2 := by rw [← hwC2]; exact Ext.drewN' (Ext.refl _) _
    rw [hwC2]
    have HBC2 := Lib.hid (HBC'.out.ext hxC2)
    have HUC2 := Lib.hid (HUC'.out.ext hxC2)
    have hxcC2 : Ext wc wC2 := HXcC.out.trans hxC2
    -- the marks of the result
    obtain ⟨Z8, V8, hV8, hlo8⟩ := (HOC'.out.keep (KeepB.of_ext hxC2)).leaves
    obtain ⟨z0, z1⟩ := two_cells HBC2.out.2
    have HMK := Lib.hid (markDesk_v (.agg #[.slice A8 D'.length c8, .slice B8 L'.length d8]) D' L' Z8 V8 1 wC2 hV8 (by omega) (by omega) HFV.out.1.1 HFV.out.1.2.1 HFV.out.1.2.2.1 HFV.out.1.2.2.2)
    have HV8 := Lib.hid (And.intro hV8 hlo8)
    clear hV8 hlo8 hxC2 hwC2 HQU
    go_wp2_with fail
    refine HMK.out.mono ?_
    rintro e wD ⟨rfl, hVD, hSD⟩
    have hID : ∀ g, LD D' L' Z8 V8 g → ∃ cs, wC2.heap[g]? = some (.cells cs 3 (0, 0)) := fun g hg => HV8.out.1.isI hg
    have HBD := Lib.hid (HBC2.out.extS hSD hID)
    have hxcD : Ext wc wD := hSD.ext hxcC2 fun g hg => by have := HV8.out.2 g hg; omega
    have HVD := Lib.hid hVD
    have HUD := Lib.hid (HUC2.out.extI hSD hID)
    obtain ⟨k3, hk3⟩ : ∃ k : Int, 1 + (total D' : Nat) + (preS L' L'.length : Nat) = k ∧ 1 ≤ k ∧ k ≤ 30000000 := ⟨_, rfl, by omega, by have := HFV.out.1.2.1; have := HFV.out.1.2.2.1; omega⟩
    have HH := Lib.hid (fun W (q : DkV W (.agg #[.slice A8 D'.length c8, .slice B8 L'.length d8]) (markM D' 1) (markS L' (1 + total D')) Z8 V8) => heldDesk_v (.agg #[.slice A8 D'.length c8, .slice B8 L'.length d8]) D' L' Z8 V8 1 W q (by omega) (by omega) HFV.out.1.1 HFV.out.1.2.1 HFV.out.1.2.2.1 HFV.out.1.2.2.2)
    rw [hk3.1] at HH ⊢
    obtain ⟨-, hk3a, hk3b⟩ := hk3
    have hus40 := HFV.out.2
    clear z0 z1 HMK hVD hSD hID hxcC2
    have HMT := Lib.hid (markStringS_any X11 c11 us k3 wD HUD.out (by omega) (by omega) (by omega))
    go_wp2_with fail
    refine HMT.out.mono ?_
    rintro e wD2 ⟨rfl, hUM, hSD2⟩
    have hID2 := HUD.out.blocks
    have HBD2 := Lib.hid (HBD.out.extT hSD2 hID2)
    have hxcD2 : Ext wc wD2 := hSD2.ext hxcD fun g hg => by have := HT11.out.2 g hg; omega
    have HVD2 := Lib.hid (HVD.out.keepT (KeepT.extS hSD2 hID2))
    have HUM := Lib.hid hUM
    have hk3p : ¬ k3 < 0 := by omega
    have hk3q : ¬ k3 + (us.length : Nat) < 0 := by omega
    have HHT := Lib.hid (fun W (q : Ext wD2 W) => heldStringS_any X11 c11 us k3 W (HUM.out.marked.ext q) (by omega) (by omega) (by omega))
    have HHD := Lib.hid (fun W (q : Ext wD2 W) => HH.out W (HVD2.out.ext q))
    have HXcD := Lib.hid hxcD2
    clear HMT hUM hSD2 hID2 hxcD hxcD2
    obtain ⟨z0, z1⟩ := two_cells HBD2.out.2
    go_wp2_with fail
    refine (HHD.out wD2 (Ext.refl _)).mono ?_
    rintro e wE ⟨rfl, hxE⟩
    clear z0 z1
    go_wp2_with fail
    refine (HHT.out wE hxE).mono ?_
    rintro e wE2 ⟨rfl, hxE2⟩
    have HBE := Lib.hid (HBD2.out.ext (hxE.trans hxE2))
    have hxcE : Ext wc wE2 := HXcD.out.trans (hxE.trans hxE2)
    have HXDE := Lib.hid (hxE.trans hxE2)
    have HXcE := Lib.hid hxcE
    have hx0E : Ext w0 wE2 := HXc.out.trans hxcE
    have HX0E := Lib.hid hx0E
    obtain ⟨p0, p1⟩ := HKB.out wE2 hx0E
    clear hxE hxE2 hxcE hx0E
    -- once more
    go_wp2_with fail
    refine (hTD.out _ (HX0.out.trans HX0E.out)).mono ?_
    rintro e w20 ⟨v20, Z20, V20, rfl, hV20, -, hX20⟩
    obtain ⟨A20, c20, B20, d20, rfl, hM20, hS20⟩ := hV20.desk
    have HM20 := Lib.hid (And.intro hM20 hS20)
    have HX20 := Lib.hid hX20
    clear hV20 hM20 hS20 hX20 p0 p1
    go_wp2_with fail
    refine (hTT.out _ (HX0.out.trans (HX0E.out.trans HX20.out))).mono ?_
    rintro e w20t ⟨v20t, rfl, hl20, -, hx20t⟩
    obtain ⟨X20, cx20, rfl, hT20⟩ := hl20.txts
    have HI20 := Lib.hid (HIP.out w20t A20 B20 c20 d20 X20 cx20 (HM20.out.1.ext hx20t) (HM20.out.2.ext hx20t) hT20 (HX0.out.trans (HX0E.out.trans (HX20.out.trans hx20t))))
    have HX20t := Lib.hid (HX20.out.trans hx20t)
    clear hl20 hT20 hx20t
    go_wp2_with fail
    refine HI20.out.mono ?_
    rintro e w21 ⟨v21, v22, rfl, hO21, hu21, hx21⟩
    obtain ⟨A21, c21, B21, d21, rfl, -, -, -, -⟩ := hO21.split
    obtain ⟨hl22, -⟩ := LeafT.of_own hu21
    obtain ⟨X22, c22, rfl, hT22⟩ := hl22.txts
    obtain ⟨w22, hw22⟩ : ∃ W, w21.alloc (.cells #[.slice A21 D'.length c21, .slice B21 L'.length d21] 26) = W := ⟨_, rfl⟩
    have hx2122 : Ext w21 w22 := by rw [← hw22]; exact Ext.alloc _ _
    have b22 := heap_alloc_new w21 (.cells #[.slice A21 D'.length c21, .slice B21 L'.length d21] 26)
    rw [hw22] at b22
    have hxE22 : Ext wE2 w22 := HX20t.out.trans (hx21.trans hx2122)
    obtain ⟨u0, u1⟩ := HK6.out w22 (HXcE.out.trans hxE22)
    obtain ⟨t0, t1⟩ := two_cells b22
    have HQF := Lib.hid (eqDesk_any A21 B21 A6 B6 c21 d21 c6 d6 D' L' w22 (hO21.same.1.ext hx2122) (hO21.same.2.ext hx2122) (HW0.out w22 (HXcE.out.trans hxE22)).1 (HW0.out w22 (HXcE.out.trans hxE22)).2.1)
    have HXE22 := Lib.hid hxE22
    have HT22 := Lib.hid (hT22.ext hx2122)
    clear b22 hO21 hu21 hl22 hT22 hx21 hx2122 hxE22
    go_wp2_with fail
    refine HQF.out.mono ?_
    rintro e wG ⟨rfl, hxG⟩
    clear u0 u1 t0 t1
    have HQG := Lib.hid (eqStringS_any X22 X7 c22 c7 us wG (HT22.out.ext hxG) (HW0.out wG (HXcE.out.trans (HXE22.out.trans hxG))).2.2)
    have HXG0 := Lib.hid (HXE22.out.trans hxG)
    clear hxG
    go_wp2_with fail
    refine HQG.out.mono ?_
    rintro e wG2 ⟨rfl, mm4, rfl⟩
    obtain ⟨wG2, hwG2⟩ : ∃ W, wG.drewN mm4 = W := ⟨_, rfl⟩
    have hxG2 : Ext wG wG2 := by rw [← hwG2]; exact Ext.drewN' (Ext.refl _) _
    rw [hwG2]
    have HXEG := Lib.hid (HXG0.out.trans hxG2)
    clear hxG2 hwG2
    obtain ⟨z0, z1⟩ := two_cells (HBE.out.ext HXEG.out).2
    go_wp2_with fail
    refine (HHD.out wG2 (HXDE.out.trans HXEG.out)).mono ?_
    rintro e wH ⟨rfl, hxH⟩
    clear z0 z1
    go_wp2_with fail
    refine (HHT.out wH ((HXDE.out.trans HXEG.out).trans hxH)).mono ?_
    rintro e wH2 ⟨rfl, hxH2⟩
    go_wp2
    go_ret
    exact ⟨rfl, HX0.out.trans (HX0E.out.trans ((HXEG.out.trans hxH).trans hxH2))⟩
end Go.Proofs.YtcejdgnfmcgopaaGreatDoor
