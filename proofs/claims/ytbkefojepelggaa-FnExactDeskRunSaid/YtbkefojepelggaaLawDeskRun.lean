/- What is proved: the law FnExactDeskRun returns true for every input, and its arguments read behind the call as before. No condition. -/
import Derived.Test.YtbkefojepelggaaExd
import Derived.Test.YtbkefojepelggaaRw3
import Derived.Test.YtbkefojepelggaaRun
import Derived.Test.YtbkefojepelggaaRunS
import Derived.Deep.RegionHeld3
import Derived.Deep.DeepCutAuto
import Derived.Deep.RegionLaw
import Derived.Deep.CutBlock
namespace Go.Proofs.Ytbkefojepelggaa
open Go.RowKit
theorem ExtS.block2 {S : Nat → Prop} {w w' : World} {m : Nat} {cs : Array Value} {T : TypeId} {fz : Nat × Nat} (k : ExtS S w w') (h : w.heap[m]? = some (.cells cs T fz)) (hI : ∀ g, S g → ∃ cs t, w.heap[g]? = some (.cells cs t (0, 0)) ∧ (t = 3 ∨ t = 33)) (hT : T ≠ 3 ∧ T ≠ 33) : w'.heap[m]? = some (.cells cs T fz) := by
  refine (k.2.2.2.2 m (heap_lt h) fun hS => ?_).trans h
  obtain ⟨cs', t, hb, ht⟩ := hI m hS
  rw [h] at hb
  injection hb with hb
  injection hb with _ ht2
  subst ht2
  rcases ht with q | q
  · exact hT.1 q
  · exact hT.2 q
/-- two blocks: desks -/
def Bk2 (m8 m10 : Nat) (a8 b8 a10 b10 : Value) (W : World) : Prop :=
  W.heap[m8]? = some (.cells #[a8, b8] 26 (0, 0)) ∧ W.heap[m10]? = some (.cells #[a10, b10] 26 (0, 0))
theorem Bk2.ext {m8 m10 : Nat} {a8 b8 a10 b10 : Value} {W W' : World} (h : Bk2 m8 m10 a8 b8 a10 b10 W) (k : Ext W W') : Bk2 m8 m10 a8 b8 a10 b10 W' :=
  ⟨(k.block (heap_lt h.1)).trans h.1, (k.block (heap_lt h.2)).trans h.2⟩
theorem Bk2.extS {S : Nat → Prop} {m8 m10 : Nat} {a8 b8 a10 b10 : Value} {W W' : World} (h : Bk2 m8 m10 a8 b8 a10 b10 W) (k : ExtS S W W') (hI : ∀ g, S g → ∃ cs t, W.heap[g]? = some (.cells cs t (0, 0)) ∧ (t = 3 ∨ t = 33)) : Bk2 m8 m10 a8 b8 a10 b10 W' :=
  ⟨k.block2 h.1 hI (by decide), k.block2 h.2 hI (by decide)⟩
theorem few_run {D : List (List Int)} {L : List (List (List Int))} {ds : List (Int × List Int)} : Few (runV D L ds).1 (runV D L ds).2.1 := by
  unfold runV
  by_cases h : deskB D L = true ∧ ds.length ≤ 40
  · rw [if_pos h]; exact few_desk (runR_desk ds ds.length 0 D L 0 h.1)
  · rw [if_neg h]; exact few_none
set_option maxRecDepth 100000 in
set_option maxHeartbeats 8000000 in
theorem FnExactDeskRun_walk (A : Option Addr) (c : Nat) (D : List (List Int)) (B : Option Addr) (d : Nat) (L : List (List (List Int))) (X : Option Addr) (cx : Nat) (xs : List (Int × List Int)) (w : World) (h1 : Mat w A c D) (h2 : MatS w B d L) (h3 : DeedsM w X cx xs) :
    Calls Try.prog 7 #[.agg #[.slice A D.length c, .slice B L.length d], .slice X xs.length cx] w fun e w' => e = .returned (.bool true) ∧ Ext w w' := by
  have H1 := Lib.hid h1
  have H2 := Lib.hid h2
  have H3 := Lib.hid h3
  have hb0 := heap_alloc_new w (.cells #[.slice A D.length c, .slice B L.length d] 45)
  have HB0 := Lib.hid hb0
  have HXT := Lib.hid (show Ext w (w.alloc (.cells #[.slice A D.length c, .slice B L.length d] 45)) from Ext.alloc _ _)
  obtain ⟨p0, p1⟩ := two_cells hb0
  have hl3 := h3.2.1
  have hl4 := h3.1
  unfold maxLen at hl3
  clear h1 h2 h3 hb0
  go_enter Try.func7, Try.ntmps7
  go_wp2_with fail
  refine (szDesk_any A B c d D L _ (H1.out.ext HXT.out) (H2.out.ext HXT.out)).mono ?_
  rintro e w1 ⟨rfl, hx1⟩
  by_cases hsz : szDk D L 1048576 < 0
  · go_wp2
    go_ret
    exact ⟨rfl, HXT.out.trans hx1⟩
  obtain ⟨hsm, hfew, hle⟩ := few_sz hsz
  obtain ⟨l0, hl0⟩ : ∃ l, szDk D L 1048576 = l := ⟨_, rfl⟩
  rw [hl0] at hsz hle
  rw [hl0]
  clear hl0
  have hxw : Ext w w1 := HXT.out.trans hx1
  have HSM := Lib.hid hsm
  have HFEW := Lib.hid hfew
  clear hsm hfew
  go_wp2_with fail
  refine (szDeedS_any X cx xs l0 _ (H3.out.ext hxw) (by omega) (by omega)).mono ?_
  rintro e w2 ⟨rfl, hx2⟩
  by_cases hq : szDs xs l0 < 0
  · go_wp2
    go_ret
    exact ⟨rfl, hxw.trans hx2⟩
  obtain ⟨hn1, hn2, hn3⟩ := szDs_spec (by omega) hq
  obtain ⟨l1, hl1⟩ : ∃ l, szDs xs l0 = l := ⟨_, rfl⟩
  rw [hl1] at hq ⊢
  clear hl1 p0 p1
  have HN := Lib.hid (And.intro hn1 (And.intro hn2 hn3))
  have hTD := Lib.hid (fun W (q : Ext w W) => toDesk_v A B c d D L W (H1.out.ext q) (H2.out.ext q) HSM.out.1 HSM.out.2.1 HSM.out.2.2)
  have hTE := Lib.hid (fun W (q : Ext w W) => toDeedS_any X cx xs W (H3.out.ext q) HN.out.1 HN.out.2.1)
  have hxw2 : Ext w w2 := hxw.trans hx2
  have hB2 := Lib.hid ((((hx1.trans hx2)).block (heap_lt HB0.out)).trans HB0.out)
  have HFV := Lib.hid (few_run (D := D) (L := L) (ds := xs))
  have HCS := Lib.hid (fun W A B c d X cx (q1 : Mat W A c D) (q2 : MatS W B d L) (q3 : DeedsM W X cx xs) => sDeskRun_any A B c d D L X cx xs W q1 q2 q3)
  have HCI := Lib.hid (fun W A B c d X cx (q1 : Mat W A c D) (q2 : MatS W B d L) (q3 : DeedsM W X cx xs) => iDeskRun_any A B c d D L X cx xs W q1 q2 q3)
  obtain ⟨D', hD'⟩ : ∃ x, (runV D L xs).1 = x := ⟨_, rfl⟩
  obtain ⟨L', hL'⟩ : ∃ x, (runV D L xs).2.1 = x := ⟨_, rfl⟩
  obtain ⟨bb, hbb⟩ : ∃ x, (runV D L xs).2.2 = x := ⟨_, rfl⟩
  rw [hD', hL', hbb] at HCS HCI
  rw [hD', hL'] at HFV
  clear hD' hL' hbb hx1 hx2 hxw HXT hn2
  have HKB := Lib.hid (fun W (q : Ext w2 W) => two_cells ((q.block (heap_lt hB2.out)).trans hB2.out))
  obtain ⟨p0, p1⟩ := HKB.out w2 (Ext.refl _)
  go_wp2_with fail
  refine (hTD.out _ hxw2).mono ?_
  rintro e wa ⟨va, Za, Va, rfl, hVa, -, hxa⟩
  obtain ⟨Aa, ca, Ba, da, rfl, hMa, hSa⟩ := hVa.desk
  clear p0 p1 hVa
  go_wp2_with fail
  refine (hTE.out _ (hxw2.trans hxa)).mono ?_
  rintro e wb ⟨Ab, cb, Vb, rfl, hVb, -, -, hxb⟩
  have HDb := Lib.hid hVb.deeds
  have HMa := Lib.hid (And.intro (hMa.ext hxb) (hSa.ext hxb))
  clear hVb hMa hSa
  go_wp2_with fail
  refine (HCS.out _ Aa Ba ca da Ab cb HMa.out.1 HMa.out.2 HDb.out).mono ?_
  rintro e wd ⟨A6, c6, B6, d6, rfl, hM6, hS6, hxd⟩
  obtain ⟨wc, hwc⟩ : ∃ W, wd.alloc (.cells #[.slice A6 D'.length c6, .slice B6 L'.length d6] 26) = W := ⟨_, rfl⟩
  have hxdc : Ext wd wc := by rw [← hwc]; exact Ext.alloc _ _
  have b6 := heap_alloc_new wd (.cells #[.slice A6 D'.length c6, .slice B6 L'.length d6] 26)
  rw [hwc] at b6
  obtain ⟨m6, hm6⟩ : ∃ m, wd.heap.size = m := ⟨_, rfl⟩
  have hx2c : Ext w2 wc := ((hxa.trans hxb).trans hxd).trans hxdc
  have HK6 := Lib.hid (fun W (q : Ext wc W) => two_cells ((q.block (heap_lt b6)).trans b6))
  rw [hm6] at HK6
  have HW0 := Lib.hid (fun W (q : Ext wc W) => And.intro (hM6.ext (hxdc.trans q)) (hS6.ext (hxdc.trans q)))
  have hxc : Ext w wc := hxw2.trans hx2c
  clear hM6 hS6 hxd hxa hxb b6 hxdc
  obtain ⟨p0, p1⟩ := HKB.out wc hx2c
  go_wp2_with fail
  clear hwc hm6
  refine (hTD.out _ hxc).mono ?_
  rintro e w4 ⟨v4, Z4, V4, rfl, hV4, hL4, hx4⟩
  obtain ⟨A4, c4, B4, d4, rfl, hM4, hS4⟩ := hV4.desk
  obtain ⟨w5, hw5⟩ : ∃ W, w4.alloc (.cells #[.slice A4 D.length c4, .slice B4 L.length d4] 26) = W := ⟨_, rfl⟩
  have hx45 : Ext w4 w5 := by rw [← hw5]; exact Ext.alloc _ _
  have b8 := heap_alloc_new w4 (.cells #[.slice A4 D.length c4, .slice B4 L.length d4] 26)
  rw [hw5] at b8
  have hxc5 : Ext wc w5 := hx4.trans hx45
  have HV4 := Lib.hid (And.intro hV4 (And.intro hL4 (And.intro hM4 hS4)))
  clear p0 p1 hV4 hL4 hM4 hS4
  obtain ⟨p0, p1⟩ := HKB.out w5 (hx2c.trans hxc5)
  go_wp2_with fail
  refine (hTE.out _ (hxc.trans hxc5)).mono ?_
  rintro e w7 ⟨A7, c7, V7, rfl, hV7, hl7, hA7, hx57⟩
  have b87 := (hx57.block (heap_lt b8)).trans b8
  have HL6 := Lib.hid (And.intro hV7 (And.intro (fun g (hg : LDs A7 xs.length V7 g) => show w5.heap.size ≤ g from by
    rcases hg with ⟨i, hi, q⟩ | ⟨_, o, s, e⟩
    · exact hl7 i hi g q
    · exact hA7 g o s e) hV7.deeds))
  obtain ⟨x0, x1⟩ := two_cells b87
  clear p0 p1 hV7 hl7 hA7
  go_wp2_with fail
  refine (HCI.out _ A4 B4 c4 d4 A7 c7 (HV4.out.2.2.1.ext (hx45.trans hx57)) (HV4.out.2.2.2.ext (hx45.trans hx57)) HL6.out.2.2).mono ?_
  rintro e w8 ⟨v8, rfl, hO8, hx8⟩
  obtain ⟨A8, c8, B8, d8, rfl, -, -, -, -⟩ := hO8.split
  obtain ⟨w9, hw9⟩ : ∃ W, w8.alloc (.cells #[.slice A8 D'.length c8, .slice B8 L'.length d8] 26) = W := ⟨_, rfl⟩
  have hx89 : Ext w8 w9 := by rw [← hw9]; exact Ext.alloc _ _
  have b10 := heap_alloc_new w8 (.cells #[.slice A8 D'.length c8, .slice B8 L'.length d8] 26)
  rw [hw9] at b10
  have hx79 : Ext w7 w9 := hx8.trans hx89
  have HO8 := Lib.hid hO8
  have HBK := Lib.hid (show Bk2 w4.heap.size w8.heap.size (.slice A4 D.length c4) (.slice B4 L.length d4) (.slice A8 D'.length c8) (.slice B8 L'.length d8) w9 from ⟨(hx79.block (heap_lt b87)).trans b87, b10⟩)
  have hxc9 : Ext wc w9 := (hxc5.trans hx57).trans hx79
  have HSZ := Lib.hid (show wc.heap.size ≤ w4.heap.size ∧ w4.heap.size ≤ w5.heap.size ∧ w5.heap.size ≤ w7.heap.size ∧ w7.heap.size ≤ w8.heap.size from ⟨hx4.size, hx45.size, hx57.size, hx8.size⟩)
  obtain ⟨m8, hm8⟩ : ∃ m, w4.heap.size = m := ⟨_, rfl⟩
  obtain ⟨m10, hm10⟩ : ∃ m, w8.heap.size = m := ⟨_, rfl⟩
  have HX49 := Lib.hid (show Ext w4 w9 from (hx45.trans hx57).trans hx79)
  have HX89 := Lib.hid hx89
  have HX79 := Lib.hid hx79
  rw [hm8, hm10] at HBK
  clear x0 x1 hO8 b8 b10 b87 hw5
  obtain ⟨z0, z1⟩ := two_cells HBK.out.2
  obtain ⟨u0, u1⟩ := HK6.out w9 hxc9
  have HQ9 := Lib.hid (eqDesk_any A8 B8 A6 B6 c8 d8 c6 d6 D' L' w9 (HO8.out.same.1.ext hx89) (HO8.out.same.2.ext hx89) (HW0.out w9 hxc9).1 (HW0.out w9 hxc9).2)
  go_wp2_with fail
  refine HQ9.out.mono ?_
  rintro e w10 ⟨rfl, hx10⟩
  clear z0 z1 u0 u1 hw9 HQ9
  have hxc10 : Ext wc w10 := hxc9.trans hx10
  have HB10 := Lib.hid (HBK.out.ext hx10)
  have HXC := Lib.hid hxc10
  have HX910 := Lib.hid hx10
  have hxw10 : Ext w w10 := hxc.trans hxc10
  clear hm8 hm10 hx45 hx4 hx8 hx89 hx79 hx57 hxc5 hxc9 hx10
  go_upto_region 14 with fail
  go_cut [58] (fun s58 wx => s58 = .bool false ∧ Hid (Ext w10 wx))
  case first =>
    obtain ⟨p0, p1⟩ := HKB.out w10 (hx2c.trans hxc10)
    obtain ⟨z0, z1⟩ := two_cells HB10.out.1
    go_wp2_with fail
    go_region_law (first | (go_simp; go_at_call 23; (fail_if_success (have q := hV20)); refine (hTD.out _ (hxw10.trans (by repeat (first | exact Ext.refl _ | apply Ext.drew' | apply Ext.alloc')))).mono ?_; rintro e w20 ⟨v20, Z20, V20, rfl, hV20, -, hX20⟩; have HX20 := Lib.hid (show Ext w10 w20 from Ext.trans (by repeat (first | exact Ext.refl _ | apply Ext.drew' | apply Ext.alloc')) hX20); obtain ⟨A20, c20, B20, d20, rfl, hM20, hS20⟩ := hV20.desk; obtain ⟨a0, a1⟩ := two_cells (HB10.out.ext HX20.out).1) | (go_simp; go_at_call 25; refine (eqDesk_any A4 B4 A20 B20 c4 d4 c20 d20 D L w20 (HV4.out.2.2.1.ext ((HX49.out.trans HX910.out).trans HX20.out)) (HV4.out.2.2.2.ext ((HX49.out.trans HX910.out).trans HX20.out)) hM20 hS20).mono ?_; rintro e w21 ⟨rfl, hX21⟩))
    all_goals
      go_wp2_with fail
      go_meet
      case rel => exact ⟨rfl, Lib.hid (HX20.out.trans hX21)⟩
  case rest =>
    obtain ⟨rfl, HX11⟩ := hcut
    obtain ⟨w11, hw11⟩ : ∃ W, W = wc := ⟨_, rfl⟩
    subst hw11
    have hx211 := (hx2c.trans hxc10).trans HX11.out
    go_wp2_with fail
    refine (hTE.out _ (hxw2.trans hx211)).mono ?_
    rintro e w20 ⟨A20, c20, V20, rfl, hV20, -, -, hX20⟩
    have HEQ := Lib.hid (eqDeedS_any A7 A20 c7 c20 xs w20 (HL6.out.2.2.ext (((HX79.out.trans HX910.out).trans HX11.out).trans hX20)) hV20.deeds)
    clear hV20
    go_wp2_with fail
    refine HEQ.out.mono ?_
    rintro e w12 ⟨rfl, hX12⟩
    have HX12 := Lib.hid (hX20.trans hX12)
    clear hX20 hX12 HEQ
    have HXA := Lib.hid ((HX910.out.trans HX11.out).trans HX12.out)
    have hxcA : Ext wc w12 := hxc10.trans (HX11.out.trans HX12.out)
    have HBA := Lib.hid (HBK.out.ext HXA.out)
    have HVA := Lib.hid (HV4.out.1.ext (HX49.out.trans HXA.out))
    have hsA := hxcA.size
    have hs9 := HXA.out.size
    have hs79 := HX79.out.size
    have hs89 := HX89.out.size
    obtain ⟨sz1, sz2, sz3, sz4⟩ := HSZ.out
    -- the marks of the first argument
    obtain ⟨z0, z1⟩ := two_cells HBA.out.1
    have HMK := Lib.hid (markDesk_v (.agg #[.slice A4 D.length c4, .slice B4 L.length d4]) D L Z4 V4 1 w12 HVA.out (by omega) (by omega) HFEW.out.1 HFEW.out.2.1 HFEW.out.2.2.1 HFEW.out.2.2.2)
    go_wp2_with fail
    refine HMK.out.mono ?_
    rintro e wB ⟨rfl, -, hSB⟩
    have hIB : ∀ g, LD D L Z4 V4 g → ∃ cs t, w12.heap[g]? = some (.cells cs t (0, 0)) ∧ (t = 3 ∨ t = 33) := fun g hg => by
      obtain ⟨cs, hb⟩ := HVA.out.isI hg
      exact ⟨cs, _, hb, .inl rfl⟩
    have hLB : ∀ g, LD D L Z4 V4 g → wc.heap.size ≤ g ∧ g < w4.heap.size := fun g hg => ⟨HV4.out.2.1 g hg, HV4.out.1.lt hg⟩
    have HBB := Lib.hid (HBA.out.extS hSB hIB)
    have hxcB : Ext wc wB := hSB.ext hxcA fun g hg => (hLB g hg).1
    have HLB := Lib.hid ((HL6.out.1.ext (HX79.out.trans HXA.out)).extS hSB fun g hg hg2 => by have := HL6.out.2.1 g hg; have := (hLB g hg2).2; omega)
    have HOB := Lib.hid ((HO8.out.keep (KeepB.of_ext (HX89.out.trans HXA.out))).extS hSB fun g hg => by have := (hLB g hg).2; omega)
    have hsB : w12.heap.size ≤ wB.heap.size := hSB.2.2.2.1
    obtain ⟨k1, hk1⟩ : ∃ k : Int, 1 + (total D : Nat) + (preS L L.length : Nat) = k ∧ 1 ≤ k ∧ k ≤ 30000000 := ⟨_, rfl, by have := HFEW.out.2.1; have := HFEW.out.2.2.1; omega, by have := HFEW.out.2.1; have := HFEW.out.2.2.1; omega⟩
    rw [hk1.1]
    obtain ⟨-, hk1a, hk1b⟩ := hk1
    clear z0 z1 HMK hSB hIB hLB
    -- the marks of the second
    have HMK := Lib.hid (markDeedS_any A7 c7 xs V7 k1 wB HLB.out (by omega) (by omega) (by have := HN.out.2.2; omega))
    go_wp2_with fail
    refine HMK.out.mono ?_
    rintro e wC ⟨rfl, -, hSC0⟩
    have hSC := ExtS.only hSC0
    have hIC : ∀ g, LDs A7 xs.length V7 g → ∃ cs t, wB.heap[g]? = some (.cells cs t (0, 0)) ∧ (t = 3 ∨ t = 33) := fun g hg => HLB.out.isI hg
    have hLC : ∀ g, LDs A7 xs.length V7 g → w5.heap.size ≤ g ∧ g < w7.heap.size := fun g hg => ⟨HL6.out.2.1 g hg, HL6.out.1.lt hg⟩
    have HBC := Lib.hid (HBB.out.extS hSC hIC)
    have hxcC : Ext wc wC := hSC.ext hxcB fun g hg => by have := (hLC g hg).1; omega
    have HOC := Lib.hid (HOB.out.extS hSC fun g hg => (hLC g hg).2)
    have hk2 : ¬ k1 + (preD xs xs.length : Nat) < 0 := by omega
    have hsC : wB.heap.size ≤ wC.heap.size := hSC.2.2.2.1
    obtain ⟨k2, hk2e⟩ : ∃ k : Int, k1 + (preD xs xs.length : Nat) = k := ⟨_, rfl⟩
    rw [hk2e] at hk2 ⊢
    clear HMK hSC hSC0 hIC hLC hk2e
    obtain ⟨z0, z1⟩ := two_cells HBC.out.2
    obtain ⟨u0, u1⟩ := HK6.out wC hxcC
    have HQC := Lib.hid (eqDesk_any A8 B8 A6 B6 c8 d8 c6 d6 D' L' wC HOC.out.same.1 HOC.out.same.2 (HW0.out wC hxcC).1 (HW0.out wC hxcC).2)
    go_wp2_with fail
    refine HQC.out.mono ?_
    rintro e wC' ⟨rfl, hxC'⟩
    clear z0 z1 u0 u1 HQC
    have HBC' := Lib.hid (HBC.out.ext hxC')
    have hxcC' : Ext wc wC' := hxcC.trans hxC'
    have HOC' := Lib.hid (HOC.out.keep (KeepB.of_ext hxC'))
    -- the marks of the result
    obtain ⟨Z8, V8, hV8, hlo8⟩ := HOC'.out.leaves
    obtain ⟨z0, z1⟩ := two_cells HBC'.out.2
    have HMK := Lib.hid (markDesk_v (.agg #[.slice A8 D'.length c8, .slice B8 L'.length d8]) D' L' Z8 V8 1 wC' hV8 (by omega) (by omega) HFV.out.1 HFV.out.2.1 HFV.out.2.2.1 HFV.out.2.2.2)
    have HV8 := Lib.hid (And.intro hV8 hlo8)
    clear hV8 hlo8
    go_wp2_with fail
    refine HMK.out.mono ?_
    rintro e wD ⟨rfl, hVD, hSD⟩
    have hID : ∀ g, LD D' L' Z8 V8 g → ∃ cs t, wC'.heap[g]? = some (.cells cs t (0, 0)) ∧ (t = 3 ∨ t = 33) := fun g hg => by
      obtain ⟨cs, hb⟩ := HV8.out.1.isI hg
      exact ⟨cs, _, hb, .inl rfl⟩
    have HBD := Lib.hid (HBC'.out.extS hSD hID)
    have hxcD : Ext wc wD := hSD.ext hxcC' fun g hg => by have := HV8.out.2 g hg; omega
    have HVD := Lib.hid hVD
    obtain ⟨k3, hk3⟩ : ∃ k : Int, 1 + (total D' : Nat) + (preS L' L'.length : Nat) = k ∧ 1 ≤ k := ⟨_, rfl, by omega⟩
    have HH := Lib.hid (fun W (q : Ext wD W) => heldDesk_v (.agg #[.slice A8 D'.length c8, .slice B8 L'.length d8]) D' L' Z8 V8 1 W (HVD.out.ext q) (by omega) (by omega) HFV.out.1 HFV.out.2.1 HFV.out.2.2.1 HFV.out.2.2.2)
    rw [hk3.1] at HH ⊢
    have hk3p : ¬ k3 < 0 := by have := hk3.2; omega
    clear z0 z1 HMK hVD hSD hID hk3 hk2
    obtain ⟨z0, z1⟩ := two_cells HBD.out.2
    go_wp2_with fail
    refine (HH.out wD (Ext.refl _)).mono ?_
    rintro e wE ⟨rfl, hxE⟩
    clear z0 z1
    have HBE := Lib.hid (HBD.out.ext hxE)
    have hxcE : Ext wc wE := hxcD.trans hxE
    have hx2E : Ext w2 wE := hx2c.trans hxcE
    have hxwE : Ext w wE := hxc.trans hxcE
    have HXDE := Lib.hid hxE
    clear hxE
    obtain ⟨p0, p1⟩ := HKB.out wE hx2E
    go_wp2_with fail
    refine (hTD.out _ hxwE).mono ?_
    rintro e wa2 ⟨va2, Za2, Va2, rfl, hVa2, -, hxa2⟩
    obtain ⟨Aa2, ca2, Ba2, da2, rfl, hMa2, hSa2⟩ := hVa2.desk
    clear p0 p1 hVa2
    go_wp2_with fail
    refine (hTE.out _ (hxwE.trans hxa2)).mono ?_
    rintro e wb2 ⟨Ab2, cb2, Vb2, rfl, hVb2, -, -, hxb2⟩
    have HDb2 := Lib.hid hVb2.deeds
    have HMa2 := Lib.hid (And.intro (hMa2.ext hxb2) (hSa2.ext hxb2))
    clear hVb2 hMa2 hSa2
    go_wp2_with fail
    refine (HCI.out _ Aa2 Ba2 ca2 da2 Ab2 cb2 HMa2.out.1 HMa2.out.2 HDb2.out).mono ?_
    rintro e wf ⟨v15, rfl, hO15, hxf⟩
    obtain ⟨A15, c15, B15, d15, rfl, -, -, -, -⟩ := hO15.split
    obtain ⟨wF, hwF⟩ : ∃ W, wf.alloc (.cells #[.slice A15 D'.length c15, .slice B15 L'.length d15] 26) = W := ⟨_, rfl⟩
    have hxfF : Ext wf wF := by rw [← hwF]; exact Ext.alloc _ _
    have b15 := heap_alloc_new wf (.cells #[.slice A15 D'.length c15, .slice B15 L'.length d15] 26)
    rw [hwF] at b15
    have hxEF : Ext wE wF := ((hxa2.trans hxb2).trans hxf).trans hxfF
    have hxcF : Ext wc wF := hxcE.trans hxEF
    obtain ⟨u0, u1⟩ := HK6.out wF hxcF
    obtain ⟨t0, t1⟩ := two_cells b15
    have HQF := Lib.hid (eqDesk_any A15 B15 A6 B6 c15 d15 c6 d6 D' L' wF (hO15.same.1.ext hxfF) (hO15.same.2.ext hxfF) (HW0.out wF hxcF).1 (HW0.out wF hxcF).2)
    clear hO15 hxa2 hxb2 hxf hxfF b15
    go_wp2_with fail
    refine HQF.out.mono ?_
    rintro e wG ⟨rfl, hxG⟩
    clear u0 u1 t0 t1 hwF
    have hxEG : Ext wE wG := hxEF.trans hxG
    obtain ⟨z0, z1⟩ := two_cells (HBE.out.ext hxEG).2
    have HXG := Lib.hid (hxwE.trans hxEG)
    go_wp2_with fail
    refine (HH.out wG (HXDE.out.trans hxEG)).mono ?_
    rintro e wH ⟨rfl, hxH⟩
    go_wp2
    go_ret
    exact ⟨rfl, HXG.out.trans hxH⟩
section
open Go.ChangeShapes Go.WideShapes Go.ChangeAt Go.Deep
set_option maxRecDepth 100000 in
theorem FnExactDeskRun_contract (H : Type) (enc : TypeId × Value → H) (W : World) (base : Nat) (args : Array Value) (ds gs : List (DataW H)) (before : List MemPlace)
    (hval : ∀ (j : Nat) t v, Try.f7.params[j]? = some t → args[j]? = some v → Value.okWide Try.prog W .any base t v)
    (hW : DataW.Whole enc Try.prog Try.f7.params.toList Rows.fnExactDeskRunSpec.vars false W args.toList ds gs before) :
    Calls Try.prog 7 args W fun e W' => ∃ v, e = .returned v ∧ Rows.fnExactDeskRunSpec.post enc Try.prog Try.f7 false true false false W args v W' := by
  have hW' := hW
  obtain ⟨p, q, hA0, hV, rfl, hfz, hnd⟩ := hW
  have hA : DataW.TrodAll enc Try.prog W 0 (fun _ => true) true Try.f7.params.toList args.toList ds p := hA0
  rw [Try.params7] at hA hval
  obtain ⟨v0, vs0, d0, ds0, p0, q0, hargs0, rfl, rfl, h0, r0⟩ := trodAll_cons hA
  obtain ⟨v1, vs1, d1, ds1, p1, q1, hargs1, rfl, rfl, h1, r1⟩ := trodAll_cons r0
  obtain ⟨hargsn, rfl, rfl⟩ := trodAll_nil r1
  obtain rfl : args = #[v0, v1] := by cases args; simp_all
  obtain ⟨rfl, rfl⟩ := trodVars_none hV
  clear hA0
  obtain ⟨A0, c0, D, B0, d0c, L0, rfl, M0, S0⟩ := read_desk (hval 0 45 v0 rfl rfl) h0
  obtain ⟨A1, c1, a, rfl, M1⟩ := read_deeds (hval 1 55 v1 rfl rfl) h1
  refine (FnExactDeskRun_walk A0 c0 D B0 d0c L0 A1 c1 a W M0 S0 M1).mono fun e W' ⟨he, hx⟩ => ⟨_, he, post_law laidOut (by rw [Try.params7]; decide +kernel) rfl rfl Try.underlying4 hW' rfl hx⟩
set_option maxRecDepth 100000 in
theorem FnExactDeskRun_lifted (os : Os) (started : os.Started) (H : Type) (enc : TypeId × Value → H) :
    ReturnsInHanded {} Try.checked os 7 .any (Rows.fnExactDeskRunSpec.pre6 enc Try.prog Try.f7 Rows.fnExactDeskRunRow.domain false) (Rows.fnExactDeskRunSpec.post enc Try.prog Try.f7 false true false false) := by
  refine returnsInHanded_of_change (C := Try.checked) own started (by kernel_rfl) Try.func7
    (ChangeSpec.witness6 (enc := enc) (C := Try.checked) false ⟨#[], #[.agg #[.slice none 0 0, .slice none 0 0], .slice none 0 0], []⟩ 8 (by kernel_rfl) (by kernel_rfl) (by kernel_rfl) (by kernel_rfl) rfl) ?_
  intro W base args ds gs before hval hW _ _
  exact FnExactDeskRun_contract H enc W base args ds gs before hval hW
theorem FnExactDeskRun_holds : Rows.FnExactDeskRunSaid :=
  OpenClaim.holds_of_wide 7 Try.f7 rfl rfl rfl rfl rfl rfl rfl ⟨rfl, rfl, rfl, rfl, rfl⟩ rfl rfl rfl rfl rfl (by kernel_rfl) Try.func7 (by kernel_rfl)
    (of_decide_eq_true (by kernel_rfl)) (by unfold Func.isWrapper; first | (rw [if_pos (by decide +kernel)]; kernel_rfl) | (rw [if_neg (by decide +kernel)]; exact ⟨rfl, rfl⟩))
    (fun os started H enc _ => FnExactDeskRun_lifted os started H enc)
end
end Go.Proofs.Ytbkefojepelggaa
