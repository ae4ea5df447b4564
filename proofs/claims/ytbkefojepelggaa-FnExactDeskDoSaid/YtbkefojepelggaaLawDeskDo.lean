/- What is proved: the law FnExactDeskDo returns true for every input, and its arguments read behind the call as before. No condition. -/
import Derived.Test.YtbkefojepelggaaExd
import Derived.Test.YtbkefojepelggaaDsk
import Derived.Deep.RegionHeld3
import Derived.Deep.DeepCutAuto
import Derived.Deep.RegionLaw
import Derived.Deep.CutBlock
namespace Go.Proofs.Ytbkefojepelggaa
open Go.RowKit
set_option maxRecDepth 100000 in
set_option maxHeartbeats 8000000 in
theorem FnExactDeskDo_walk (A : Option Addr) (c : Nat) (D : List (List Int)) (B : Option Addr) (d : Nat) (L : List (List (List Int))) (kd : Int) (X : Option Addr) (cx : Nat) (xs : List Int) (w : World) (h1 : Mat w A c D) (h2 : MatS w B d L) (h3 : Ints w X cx xs) :
    Calls Try.prog 6 #[.agg #[.slice A D.length c, .slice B L.length d], .agg #[.int .i64 kd, .slice X xs.length cx]] w fun e w' => e = .returned (.bool true) ∧ Ext w w' := by
  have H1 := Lib.hid h1
  have H2 := Lib.hid h2
  have H3 := Lib.hid h3
  have hb0 := fun W (q : Ext ((w.alloc (.cells #[.slice A D.length c, .slice B L.length d] 45)).alloc (.cells #[.int .i64 kd, .slice X xs.length cx] 46)) W) => two_blocks q
  have HB0 := Lib.hid hb0
  have hlx : xs.length ≤ maxLen := Nat.le_trans h3.1 h3.2.1
  have HLX := Lib.hid hlx
  have HXT := Lib.hid (show Ext w ((w.alloc (.cells #[.slice A D.length c, .slice B L.length d] 45)).alloc (.cells #[.int .i64 kd, .slice X xs.length cx] 46)) from (Ext.alloc _ _).alloc' _)
  obtain ⟨b0, b1, -, -⟩ := hb0 _ (Ext.refl _)
  obtain ⟨p0, p1⟩ := two_cells b0
  obtain ⟨q0, q1⟩ := two_cells b1
  clear h1 h2 h3 hb0 b0 b1 hlx
  go_enter Try.func6, Try.ntmps6
  go_wp2_with fail
  refine (szDesk_any A B c d D L _ (H1.out.ext HXT.out) (H2.out.ext HXT.out)).mono ?_
  rintro e w1 ⟨rfl, hx1⟩
  by_cases hsz : szDk D L 1048576 < 0
  · go_wp2
    go_ret
    exact ⟨rfl, HXT.out.trans hx1⟩
  obtain ⟨hsm, hfew, hle⟩ := few_sz hsz
  obtain ⟨l0, hl0⟩ : ∃ l, szDk D L 1048576 = l := ⟨_, rfl⟩
  rw [hl0] at hsz hle
  rw [hl0]
  clear p0 p1 q0 q1 hl0
  obtain ⟨b0, b1, hxw, hsz1⟩ := HB0.out w1 hx1
  obtain ⟨p0, p1⟩ := two_cells b0
  obtain ⟨q0, q1⟩ := two_cells b1
  have HSM := Lib.hid hsm
  have HFEW := Lib.hid hfew
  clear hsm hfew
  go_wp2_with fail
  refine (szDeed_any kd X xs.length cx l0 _ (by omega) (by omega) HLX.out).mono ?_
  rintro e w2 ⟨rfl, hx2⟩
  have hdI : szI xs.length l0 = if l0 - (xs.length : Int) < 0 then -1 else l0 - (xs.length : Int) := rfl
  by_cases hq : l0 - (xs.length : Int) < 0
  · rw [if_pos hq] at hdI
    rw [hdI]
    clear hdI
    go_wp2
    go_ret
    exact ⟨rfl, hxw.trans hx2⟩
  rw [if_neg hq] at hdI
  rw [hdI]
  clear hdI p0 p1 q0 q1
  have hxs : xs.length ≤ 1048576 := by omega
  have hTD := Lib.hid (fun W (q : Ext w W) => toDesk_v A B c d D L W (H1.out.ext q) (H2.out.ext q) HSM.out.1 HSM.out.2.1 HSM.out.2.2)
  have hTE := Lib.hid (fun W (q : Ext w W) => toDeed_any kd X cx xs W (H3.out.ext q) hxs)
  have hxw2 : Ext w w2 := hxw.trans hx2
  have hB2 := Lib.hid (And.intro ((hx2.block (heap_lt b0)).trans b0) ((hx2.block (heap_lt b1)).trans b1))
  have hsz2 : w.heap.size + 2 ≤ w2.heap.size := by have := hx2.size; omega
  have HFV := Lib.hid (few_v (D := D) (L := L) (kind := kd) (xs := xs))
  have HCS := Lib.hid (fun W A B c d X cx (q1 : Mat W A c D) (q2 : MatS W B d L) (q3 : Ints W X cx xs) => sDeskDo_any A B c d D L kd X cx xs W q1 q2 q3)
  have HCI := Lib.hid (fun W A B c d X cx (q1 : Mat W A c D) (q2 : MatS W B d L) (q3 : Ints W X cx xs) => iDeskDo_any A B c d D L kd X cx xs W q1 q2 q3)
  obtain ⟨D', hD'⟩ : ∃ x, vD D L kd xs = x := ⟨_, rfl⟩
  obtain ⟨L', hL'⟩ : ∃ x, vL D L kd xs = x := ⟨_, rfl⟩
  obtain ⟨bb, hbb⟩ : ∃ x, vB D L kd xs = x := ⟨_, rfl⟩
  rw [hD', hL', hbb] at HCS HCI
  rw [hD', hL'] at HFV
  clear hD' hL' hbb b0 b1 hx1 hx2 hxw HXT
  have HKB := Lib.hid (fun W (q : Ext w2 W) => And.intro (two_cells ((q.block (heap_lt hB2.out.1)).trans hB2.out.1)) (two_cells ((q.block (heap_lt hB2.out.2)).trans hB2.out.2)))
  go_upto_region 8 with fail
  go_cut [6, 7] (fun s6 s7 wx => ∃ m6 A' c' B' d', s6 = .pointer (some ⟨m6, 0, none⟩) ∧ s7 = .bool bb ∧ Hid (Ext w2 wx ∧ wx.heap[m6]? = some (.cells #[.slice A' (List.length D') c', .slice B' (List.length L') d'] 26 (0, 0)) ∧ From w2.heap.size wx (fun W => Mat W A' c' D' ∧ MatS W B' d' L')))
  case first =>
    obtain ⟨p0, p1⟩ := two_cells hB2.out.1
    obtain ⟨q0, q1⟩ := two_cells hB2.out.2
    have p0' : ∀ o, (w2.alloc o).cell? ⟨w.heap.size, 0, none⟩ = some _ := fun o => (Ext.alloc w2 o).cell p0
    have p1' : ∀ o, (w2.alloc o).cell? ⟨w.heap.size, 1, none⟩ = some _ := fun o => (Ext.alloc w2 o).cell p1
    have q0' : ∀ o, (w2.alloc o).cell? ⟨w.heap.size + 1, 0, none⟩ = some _ := fun o => (Ext.alloc w2 o).cell q0
    have q1' : ∀ o, (w2.alloc o).cell? ⟨w.heap.size + 1, 1, none⟩ = some _ := fun o => (Ext.alloc w2 o).cell q1
    go_wp2_with fail
    go_region_law (first | (go_simp; go_at_call 23; (fail_if_success (have q := hV20)); refine (hTD.out _ (hxw2.trans (by repeat (first | exact Ext.refl _ | apply Ext.drew' | apply Ext.alloc')))).mono ?_; rintro e w20 ⟨v20, Z20, V20, rfl, hV20, hL20, hX20⟩; have HX20 := Lib.hid (show Ext w2 w20 from Ext.trans (by repeat (first | exact Ext.refl _ | apply Ext.drew' | apply Ext.alloc')) hX20); obtain ⟨A20, c20, B20, d20, rfl, hM20, hS20⟩ := hV20.desk; obtain ⟨-, a2, a3⟩ := HKB.out w20 HX20.out; have a2' : ∀ o, (w20.alloc o).cell? ⟨w.heap.size + 1, 0, none⟩ = some _ := (fun o => (Ext.alloc w20 o).cell a2); have a3' : ∀ o, (w20.alloc o).cell? ⟨w.heap.size + 1, 1, none⟩ = some _ := (fun o => (Ext.alloc w20 o).cell a3); (try have x20 : w20.heap[w2.heap.size]? = some (.cells #[.slice none 0 0, .slice none 0 0] 26 (0, 0)) := (hX20.block (by simp)).trans (alloc_at (by simp)))) | (go_simp; go_at_call 24; (fail_if_success (have q := hL21)); refine (hTE.out _ (hxw2.trans (HX20.out.trans (by repeat (first | exact Ext.refl _ | apply Ext.drew' | apply Ext.alloc'))))).mono ?_; rintro e w21 ⟨v21, rfl, hL21, hl21, hX21⟩; have HX201 := Lib.hid (show Ext w20 w21 from Ext.trans (by repeat (first | exact Ext.refl _ | apply Ext.drew' | apply Ext.alloc')) hX21); obtain ⟨A21, c21, rfl, hI21⟩ := hL21.ints; (try have x21 := (HX201.out.block (heap_lt x20)).trans x20); (try have y21 : w21.heap[w20.heap.size]? = some (.cells #[.slice none 0 0, .slice none 0 0] 26 (0, 0)) := (hX21.block (by simp)).trans (alloc_at (by simp)))) | (go_simp; go_at_call 14; refine (HCS.out _ A20 B20 c20 d20 A21 c21 (hM20.ext (HX201.out.trans (by repeat (first | exact Ext.refl _ | apply Ext.drew' | apply Ext.alloc')))) (hS20.ext (HX201.out.trans (by repeat (first | exact Ext.refl _ | apply Ext.drew' | apply Ext.alloc')))) (hI21.ext (by repeat (first | exact Ext.refl _ | apply Ext.drew' | apply Ext.alloc')))).mono ?_; rintro e w22 ⟨A22, c22, B22, d22, rfl, hF22, hX22, -⟩; have HX212 := Lib.hid (show Ext w21 w22 from Ext.trans (by repeat (first | exact Ext.refl _ | apply Ext.drew' | apply Ext.alloc')) hX22); (try have x22 := (HX212.out.block (heap_lt x21)).trans x21); (try have y22 := (HX212.out.block (heap_lt y21)).trans y21); (try have z22 : w22.heap[w21.heap.size]? = some (.cells #[.slice none 0 0, .slice none 0 0] 26 (0, 0)) := (hX22.block (by simp)).trans (alloc_at (by simp))); have n22 := (heap_alloc_new w22 (.cells #[.slice none 0 0, .slice none 0 0] 26)); (try (have tx22 := keepB_set2 (b := 0) x22 (.slice A22 D'.length c22) (.slice B22 L'.length d22); obtain ⟨x221, x222, x223, x224, -⟩ := tx22)); (try (have ty22 := keepB_set2 (b := 0) y22 (.slice A22 D'.length c22) (.slice B22 L'.length d22); obtain ⟨y221, y222, y223, y224, -⟩ := ty22)); (try (have tz22 := keepB_set2 (b := 0) z22 (.slice A22 D'.length c22) (.slice B22 L'.length d22); obtain ⟨z221, z222, z223, z224, -⟩ := tz22)); (try (have tn22 := keepB_set2 (b := 0) n22 (.slice A22 D'.length c22) (.slice B22 L'.length d22); obtain ⟨n221, n222, n223, n224, -⟩ := tn22))))
    all_goals
      go_wp2_with fail
      go_meet
      case rel =>
        have s20 := HX20.out.size
        have s21 := HX201.out.size
        have s22 := HX212.out.size
        first
          | exact ⟨_, _, _, _, _, rfl, rfl, Lib.hid (from_stored (by repeat (first | exact HX20.out.trans HX201.out | apply Ext.drew' | apply Ext.alloc')) hX22 hF22 ⟨w22, Ext.refl _, x22, rfl⟩ (.inl ⟨Nat.le_refl _, by have := heap_lt x21; simp; omega⟩))⟩
          | exact ⟨_, _, _, _, _, rfl, rfl, Lib.hid (from_stored (by repeat (first | exact HX20.out.trans HX201.out | apply Ext.drew' | apply Ext.alloc')) hX22 hF22 ⟨w22, Ext.refl _, y22, rfl⟩ (.inl ⟨s20, by have := heap_lt y21; simp; omega⟩))⟩
          | exact ⟨_, _, _, _, _, rfl, rfl, Lib.hid (from_stored (by repeat (first | exact HX20.out.trans HX201.out | apply Ext.drew' | apply Ext.alloc')) hX22 hF22 ⟨w22, Ext.refl _, z22, rfl⟩ (.inl ⟨by omega, by simp⟩))⟩
          | exact ⟨_, _, _, _, _, rfl, rfl, Lib.hid (from_stored (by repeat (first | exact HX20.out.trans HX201.out | apply Ext.drew' | apply Ext.alloc')) hX22 hF22 ⟨_, Ext.alloc _ _, heap_alloc_new _ _, alloc_set2 _ _ _ _ _ _⟩ (.inr (Nat.le_refl _)))⟩
  case rest =>
    obtain ⟨m6, A6, c6, B6, d6, rfl, rfl, HR⟩ := hcut
    have hxc : Ext w wc := hxw2.trans HR.out.1
    have HK6 := Lib.hid (fun W (q : Ext wc W) => two_cells ((q.block (heap_lt HR.out.2.1)).trans HR.out.2.1))
    have HW0 := Lib.hid (fun W (q : Ext wc W) => And.intro (HR.out.2.2.now.1.ext q) (HR.out.2.2.now.2.ext q))
    obtain ⟨⟨p0, p1⟩, ⟨q0, q1⟩⟩ := HKB.out wc HR.out.1
    go_wp2_with fail
    refine (hTD.out _ hxc).mono ?_
    rintro e w4 ⟨v4, Z4, V4, rfl, hV4, hL4, hx4⟩
    obtain ⟨A4, c4, B4, d4, rfl, hM4, hS4⟩ := hV4.desk
    obtain ⟨w5, hw5⟩ : ∃ W, w4.alloc (.cells #[.slice A4 D.length c4, .slice B4 L.length d4] 26) = W := ⟨_, rfl⟩
    have hx45 : Ext w4 w5 := by rw [← hw5]; exact Ext.alloc _ _
    have b8 := heap_alloc_new w4 (.cells #[.slice A4 D.length c4, .slice B4 L.length d4] 26)
    rw [hw5] at b8
    have hxc5 : Ext wc w5 := hx4.trans hx45
    have HV4 := Lib.hid (And.intro hV4 (And.intro hL4 (And.intro hM4 hS4)))
    clear p0 p1 q0 q1 hV4 hL4 hM4 hS4
    obtain ⟨⟨p0, p1⟩, ⟨q0, q1⟩⟩ := HKB.out w5 (HR.out.1.trans hxc5)
    go_wp2_with fail
    refine (hTE.out _ (hxc.trans hxc5)).mono ?_
    rintro e w6 ⟨v6, rfl, hL6, hl6, hx6⟩
    obtain ⟨A7, c7, rfl, hI6⟩ := hL6.ints
    obtain ⟨w7, hw7⟩ : ∃ W, w6.alloc (.cells #[.int .i64 kd, .slice A7 xs.length c7] 33) = W := ⟨_, rfl⟩
    have hx67 : Ext w6 w7 := by rw [← hw7]; exact Ext.alloc _ _
    have b9 := heap_alloc_new w6 (.cells #[.int .i64 kd, .slice A7 xs.length c7] 33)
    rw [hw7] at b9
    have hx57 : Ext w5 w7 := hx6.trans hx67
    have b87 := (hx57.block (heap_lt b8)).trans b8
    have HL6 := Lib.hid (And.intro hL6 (And.intro hl6 hI6))
    obtain ⟨x0, x1⟩ := two_cells b87
    obtain ⟨y0, y1⟩ := two_cells b9
    clear p0 p1 q0 q1 hL6 hl6 hI6
    go_wp2_with fail
    refine (HCI.out _ A4 B4 c4 d4 A7 c7 (HV4.out.2.2.1.ext (hx45.trans hx57)) (HV4.out.2.2.2.ext (hx45.trans hx57)) (HL6.out.2.2.ext hx67)).mono ?_
    rintro e w8 ⟨v8, rfl, hO8, hx8⟩
    obtain ⟨A8, c8, B8, d8, rfl, -, -, -, -⟩ := hO8.split
    obtain ⟨w9, hw9⟩ : ∃ W, w8.alloc (.cells #[.slice A8 D'.length c8, .slice B8 L'.length d8] 26) = W := ⟨_, rfl⟩
    have hx89 : Ext w8 w9 := by rw [← hw9]; exact Ext.alloc _ _
    have b10 := heap_alloc_new w8 (.cells #[.slice A8 D'.length c8, .slice B8 L'.length d8] 26)
    rw [hw9] at b10
    have hx79 : Ext w7 w9 := hx8.trans hx89
    have HO8 := Lib.hid hO8
    have HBK := Lib.hid (show Bk3 w4.heap.size w6.heap.size w8.heap.size (.slice A4 D.length c4) (.slice B4 L.length d4) (.int .i64 kd) (.slice A7 xs.length c7) (.slice A8 D'.length c8) (.slice B8 L'.length d8) w9 from ⟨(hx79.block (heap_lt b87)).trans b87, (hx79.block (heap_lt b9)).trans b9, b10⟩)
    have hxc9 : Ext wc w9 := (hxc5.trans hx57).trans hx79
    have HSZ := Lib.hid (show wc.heap.size ≤ w4.heap.size ∧ w4.heap.size ≤ w5.heap.size ∧ w5.heap.size ≤ w6.heap.size ∧ w6.heap.size ≤ w7.heap.size ∧ w7.heap.size ≤ w8.heap.size from ⟨hx4.size, hx45.size, hx6.size, hx67.size, hx8.size⟩)
    obtain ⟨m8, hm8⟩ : ∃ m, w4.heap.size = m := ⟨_, rfl⟩
    obtain ⟨m9, hm9⟩ : ∃ m, w6.heap.size = m := ⟨_, rfl⟩
    obtain ⟨m10, hm10⟩ : ∃ m, w8.heap.size = m := ⟨_, rfl⟩
    have HX49 := Lib.hid (show Ext w4 w9 from (hx45.trans hx57).trans hx79)
    have HX69 := Lib.hid (show Ext w6 w9 from hx67.trans hx79)
    have HX89 := Lib.hid hx89
    have HX79 := Lib.hid hx79
    rw [hm8, hm9, hm10] at HBK
    clear x0 x1 y0 y1 hO8 b8 b9 b10 b87 hw5 hw7
    obtain ⟨z0, z1⟩ := two_cells HBK.out.2.2
    obtain ⟨u0, u1⟩ := HK6.out w9 hxc9
    have HQ9 := Lib.hid (eqDesk_any A8 B8 A6 B6 c8 d8 c6 d6 D' L' w9 (HO8.out.same.1.ext hx89) (HO8.out.same.2.ext hx89) (HW0.out w9 hxc9).1 (HW0.out w9 hxc9).2)
    go_wp2_with fail
    refine HQ9.out.mono ?_
    rintro e w10 ⟨rfl, hx10⟩
    clear z0 z1 u0 u1 hw9 HQ9
    have hxc10 : Ext wc w10 := hxc9.trans hx10
    have HB10 := Lib.hid (HBK.out.ext hx10)
    have HXC := Lib.hid hxc10
    have HX910 := Lib.hid hx10
    clear hm8 hm9 hm10 hx45 hx4 hx6 hx67 hx8 hx89 hx79 hx57 hxc5 hxc9 hx10
    have hxw10 : Ext w w10 := hxc.trans hxc10
    go_upto_region 14 with fail
    go_cut [58] (fun s58 wx => s58 = .bool false ∧ Hid (Ext w10 wx))
    case first =>
      obtain ⟨p0, p1⟩ := (HKB.out w10 (HR.out.1.trans hxc10)).1
      obtain ⟨z0, z1⟩ := two_cells HB10.out.1
      go_wp2_with fail
      go_region_law (first | (go_simp; go_at_call 23; (fail_if_success (have q := hV20)); refine (hTD.out _ (hxw10.trans (by repeat (first | exact Ext.refl _ | apply Ext.drew' | apply Ext.alloc')))).mono ?_; rintro e w20 ⟨v20, Z20, V20, rfl, hV20, -, hX20⟩; have HX20 := Lib.hid (show Ext w10 w20 from Ext.trans (by repeat (first | exact Ext.refl _ | apply Ext.drew' | apply Ext.alloc')) hX20); obtain ⟨A20, c20, B20, d20, rfl, hM20, hS20⟩ := hV20.desk; obtain ⟨a0, a1⟩ := two_cells (HB10.out.ext HX20.out).1) | (go_simp; go_at_call 25; refine (eqDesk_any A4 B4 A20 B20 c4 d4 c20 d20 D L w20 (HV4.out.2.2.1.ext ((HX49.out.trans HX910.out).trans HX20.out)) (HV4.out.2.2.2.ext ((HX49.out.trans HX910.out).trans HX20.out)) hM20 hS20).mono ?_; rintro e w21 ⟨rfl, hX21⟩))
      all_goals
        go_wp2_with fail
        go_meet
        case rel => exact ⟨rfl, Lib.hid (HX20.out.trans hX21)⟩
    case rest =>
      obtain ⟨rfl, HX11⟩ := hcut
      obtain ⟨w11, hw11⟩ : ∃ W, W = wc := ⟨_, rfl⟩
      subst hw11
      go_upto_region 16 with fail
      go_cut [63] (fun s63 wx => s63 = .bool false ∧ Hid (Ext w11 wx))
      case first =>
        have hx211 := (HR.out.1.trans hxc10).trans HX11.out
        obtain ⟨q0, q1⟩ := (HKB.out w11 hx211).2
        obtain ⟨z0, z1⟩ := two_cells (HB10.out.ext HX11.out).2.1
        go_wp2_with fail
        go_region_law (first | (go_simp; go_at_call 24; (fail_if_success (have q := hL21)); refine (hTE.out _ ((hxw2.trans hx211).trans (by repeat (first | exact Ext.refl _ | apply Ext.drew' | apply Ext.alloc')))).mono ?_; rintro e w20 ⟨v20, rfl, hL21, -, hX20⟩; have HX20 := Lib.hid (show Ext w11 w20 from Ext.trans (by repeat (first | exact Ext.refl _ | apply Ext.drew' | apply Ext.alloc')) hX20); obtain ⟨A20, c20, rfl, hI20⟩ := hL21.ints; obtain ⟨a0, a1⟩ := two_cells ((HB10.out.ext HX11.out).ext HX20.out).2.1) | (go_simp; go_at_call 26; refine (eqDeed_any kd A7 A20 c7 c20 xs w20 (HL6.out.2.2.ext (((HX69.out.trans HX910.out).trans HX11.out).trans HX20.out)) hI20).mono ?_; rintro e w21 ⟨rfl, hX21⟩))
        all_goals
          go_wp2_with fail
          go_meet
          case rel => exact ⟨rfl, Lib.hid (HX20.out.trans hX21)⟩
      case rest =>
        obtain ⟨rfl, HX12⟩ := hcut
        obtain ⟨w12, hw12⟩ : ∃ W, W = wc := ⟨_, rfl⟩
        subst hw12
        have HXA := Lib.hid ((HX910.out.trans HX11.out).trans HX12.out)
        have hxcA : Ext wc w12 := hxc10.trans (HX11.out.trans HX12.out)
        have HBA := Lib.hid (HBK.out.ext HXA.out)
        have HVA := Lib.hid (HV4.out.1.ext (HX49.out.trans HXA.out))
        have hsA := hxcA.size
        have hs9 := HXA.out.size
        have hs79 := HX79.out.size
        have hs89 := HX89.out.size
        obtain ⟨sz1, sz2, sz3, sz4, sz5⟩ := HSZ.out
        -- the marks of the first argument
        obtain ⟨z0, z1⟩ := two_cells HBA.out.1
        have HMK := Lib.hid (markDesk_v (.agg #[.slice A4 D.length c4, .slice B4 L.length d4]) D L Z4 V4 1 w12 HVA.out (by omega) (by omega) HFEW.out.1 HFEW.out.2.1 HFEW.out.2.2.1 HFEW.out.2.2.2)
        go_wp2_with fail
        refine HMK.out.mono ?_
        rintro e wB ⟨rfl, -, hSB⟩
        have hIB : ∀ g, LD D L Z4 V4 g → ∃ cs, w12.heap[g]? = some (.cells cs 3 (0, 0)) := fun g hg => HVA.out.isI hg
        have hLB : ∀ g, LD D L Z4 V4 g → wc.heap.size ≤ g ∧ g < w4.heap.size := fun g hg => ⟨HV4.out.2.1 g hg, HV4.out.1.lt hg⟩
        have HBB := Lib.hid (HBA.out.extS hSB hIB)
        have hxcB : Ext wc wB := hSB.ext hxcA fun g hg => (hLB g hg).1
        have HLB := Lib.hid ((HL6.out.1.ext (HX69.out.trans HXA.out)).extS hSB fun g hg hg2 => by have := HL6.out.2.1 g hg; have := (hLB g hg2).2; omega)
        have HOB := Lib.hid ((HO8.out.keep (KeepB.of_ext (HX89.out.trans HXA.out))).extS hSB fun g hg => by have := (hLB g hg).2; omega)
        have hsB : w12.heap.size ≤ wB.heap.size := hSB.2.2.2.1
        obtain ⟨k1, hk1⟩ : ∃ k : Int, 1 + (total D : Nat) + (preS L L.length : Nat) = k ∧ 1 ≤ k ∧ k ≤ 30000000 := ⟨_, rfl, by have := HFEW.out.2.1; have := HFEW.out.2.2.1; omega, by have := HFEW.out.2.1; have := HFEW.out.2.2.1; omega⟩
        rw [hk1.1]
        obtain ⟨-, hk1a, hk1b⟩ := hk1
        clear z0 z1 HMK hSB hIB hLB
        -- the marks of the second
        obtain ⟨z0, z1⟩ := two_cells HBB.out.2.1
        have HMK := Lib.hid (markDeed_any kd A7 c7 xs k1 wB HLB.out (by omega) (by omega) (by omega))
        go_wp2_with fail
        refine HMK.out.mono ?_
        rintro e wC ⟨rfl, -, hSC⟩
        have hIC : ∀ g, g ∈ lb (.slice A7 xs.length c7) → ∃ cs, wB.heap[g]? = some (.cells cs 3 (0, 0)) := fun g hg => HLB.out.blocks g hg
        have hLC : ∀ g, g ∈ lb (.slice A7 xs.length c7) → w5.heap.size ≤ g ∧ g < w6.heap.size := fun g hg => ⟨HL6.out.2.1 g hg, HL6.out.1.lt hg⟩
        have HBC := Lib.hid (HBB.out.extS hSC hIC)
        have hxcC : Ext wc wC := hSC.ext hxcB fun g hg => by have := (hLC g hg).1; omega
        have HOC := Lib.hid (HOB.out.extS hSC fun g hg => by have := (hLC g hg).2; omega)
        have hk2 : ¬ k1 + (xs.length : Int) < 0 := by omega
        have hsC : wB.heap.size ≤ wC.heap.size := hSC.2.2.2.1
        obtain ⟨k2, hk2e⟩ : ∃ k : Int, k1 + (xs.length : Int) = k := ⟨_, rfl⟩
        rw [hk2e] at hk2 ⊢
        clear z0 z1 HMK hSC hIC hLC hk2e
        obtain ⟨z0, z1⟩ := two_cells HBC.out.2.2
        obtain ⟨u0, u1⟩ := HK6.out wC hxcC
        have HQC := Lib.hid (eqDesk_any A8 B8 A6 B6 c8 d8 c6 d6 D' L' wC HOC.out.same.1 HOC.out.same.2 (HW0.out wC hxcC).1 (HW0.out wC hxcC).2)
        go_wp2_with fail
        refine HQC.out.mono ?_
        rintro e wC' ⟨rfl, hxC'⟩
        clear z0 z1 u0 u1 HQC
        have HBC' := Lib.hid (HBC.out.ext hxC')
        have hxcC' : Ext wc wC' := hxcC.trans hxC'
        have HOC' := Lib.hid (HOC.out.keep (KeepB.of_ext hxC'))
        -- the marks of the result
        obtain ⟨Z8, V8, hV8, hlo8⟩ := HOC'.out.leaves
        obtain ⟨z0, z1⟩ := two_cells HBC'.out.2.2
        have HMK := Lib.hid (markDesk_v (.agg #[.slice A8 D'.length c8, .slice B8 L'.length d8]) D' L' Z8 V8 1 wC' hV8 (by omega) (by omega) HFV.out.1 HFV.out.2.1 HFV.out.2.2.1 HFV.out.2.2.2)
        have HV8 := Lib.hid (And.intro hV8 hlo8)
        clear hV8 hlo8
        go_wp2_with fail
        refine HMK.out.mono ?_
        rintro e wD ⟨rfl, hVD, hSD⟩
        have hID : ∀ g, LD D' L' Z8 V8 g → ∃ cs, wC'.heap[g]? = some (.cells cs 3 (0, 0)) := fun g hg => HV8.out.1.isI hg
        have HBD := Lib.hid (HBC'.out.extS hSD hID)
        have hxcD : Ext wc wD := hSD.ext hxcC' fun g hg => by have := HV8.out.2 g hg; omega
        have HVD := Lib.hid hVD
        obtain ⟨k3, hk3⟩ : ∃ k : Int, 1 + (total D' : Nat) + (preS L' L'.length : Nat) = k ∧ 1 ≤ k := ⟨_, rfl, by omega⟩
        have HH := Lib.hid (fun W (q : Ext wD W) => heldDesk_v (.agg #[.slice A8 D'.length c8, .slice B8 L'.length d8]) D' L' Z8 V8 1 W (HVD.out.ext q) (by omega) (by omega) HFV.out.1 HFV.out.2.1 HFV.out.2.2.1 HFV.out.2.2.2)
        rw [hk3.1] at HH ⊢
        have hk3p : ¬ k3 < 0 := by have := hk3.2; omega
        clear z0 z1 HMK hVD hSD hID hk3 hk2
        obtain ⟨z0, z1⟩ := two_cells HBD.out.2.2
        go_wp2_with fail
        refine (HH.out wD (Ext.refl _)).mono ?_
        rintro e wE ⟨rfl, hxE⟩
        clear z0 z1
        have HBE := Lib.hid (HBD.out.ext hxE)
        have hxcE : Ext wc wE := hxcD.trans hxE
        have hx2E : Ext w2 wE := HR.out.1.trans hxcE
        have hxwE : Ext w wE := hxc.trans hxcE
        have HXDE := Lib.hid hxE
        clear hxE
        go_upto_region 31 with fail
        go_cut [15, 16] (fun s15 s16 wx => ∃ m15 A' c' B' d', s15 = .pointer (some ⟨m15, 0, none⟩) ∧ s16 = .bool bb ∧ Hid (Ext wE wx ∧ wx.heap[m15]? = some (.cells #[.slice A' (List.length D') c', .slice B' (List.length L') d'] 26 (0, 0)) ∧ Mat wx A' c' D' ∧ MatS wx B' d' L'))
        case first =>
          obtain ⟨⟨p0, p1⟩, ⟨q0, q1⟩⟩ := HKB.out wE hx2E
          have p0' : ∀ o, (wE.alloc o).cell? ⟨w.heap.size, 0, none⟩ = some _ := fun o => (Ext.alloc wE o).cell p0
          have p1' : ∀ o, (wE.alloc o).cell? ⟨w.heap.size, 1, none⟩ = some _ := fun o => (Ext.alloc wE o).cell p1
          have q0' : ∀ o, (wE.alloc o).cell? ⟨w.heap.size + 1, 0, none⟩ = some _ := fun o => (Ext.alloc wE o).cell q0
          have q1' : ∀ o, (wE.alloc o).cell? ⟨w.heap.size + 1, 1, none⟩ = some _ := fun o => (Ext.alloc wE o).cell q1
          go_wp2_with fail
          go_region_law (first | (go_simp; go_at_call 23; (fail_if_success (have q := hV20)); refine (hTD.out _ (hxwE.trans (by repeat (first | exact Ext.refl _ | apply Ext.drew' | apply Ext.alloc')))).mono ?_; rintro e w20 ⟨v20, Z20, V20, rfl, hV20, hL20, hX20⟩; have HX20 := Lib.hid (show Ext wE w20 from Ext.trans (by repeat (first | exact Ext.refl _ | apply Ext.drew' | apply Ext.alloc')) hX20); obtain ⟨A20, c20, B20, d20, rfl, hM20, hS20⟩ := hV20.desk; obtain ⟨-, a2, a3⟩ := HKB.out w20 (hx2E.trans HX20.out); have a2' : ∀ o, (w20.alloc o).cell? ⟨w.heap.size + 1, 0, none⟩ = some _ := (fun o => (Ext.alloc w20 o).cell a2); have a3' : ∀ o, (w20.alloc o).cell? ⟨w.heap.size + 1, 1, none⟩ = some _ := (fun o => (Ext.alloc w20 o).cell a3); (try have x20 : w20.heap[wE.heap.size]? = some (.cells #[.slice none 0 0, .slice none 0 0] 26 (0, 0)) := (hX20.block (by simp)).trans (alloc_at (by simp)))) | (go_simp; go_at_call 24; (fail_if_success (have q := hL21)); refine (hTE.out _ (hxwE.trans (HX20.out.trans (by repeat (first | exact Ext.refl _ | apply Ext.drew' | apply Ext.alloc'))))).mono ?_; rintro e w21 ⟨v21, rfl, hL21, hl21, hX21⟩; have HX201 := Lib.hid (show Ext w20 w21 from Ext.trans (by repeat (first | exact Ext.refl _ | apply Ext.drew' | apply Ext.alloc')) hX21); obtain ⟨A21, c21, rfl, hI21⟩ := hL21.ints; (try have x21 := (HX201.out.block (heap_lt x20)).trans x20); (try have y21 : w21.heap[w20.heap.size]? = some (.cells #[.slice none 0 0, .slice none 0 0] 26 (0, 0)) := (hX21.block (by simp)).trans (alloc_at (by simp)))) | (go_simp; go_at_call 13; refine (HCI.out _ A20 B20 c20 d20 A21 c21 (hM20.ext (HX201.out.trans (by repeat (first | exact Ext.refl _ | apply Ext.drew' | apply Ext.alloc')))) (hS20.ext (HX201.out.trans (by repeat (first | exact Ext.refl _ | apply Ext.drew' | apply Ext.alloc')))) (hI21.ext (by repeat (first | exact Ext.refl _ | apply Ext.drew' | apply Ext.alloc')))).mono ?_; rintro e w22 ⟨v22, rfl, hO22, hX22⟩; obtain ⟨A22, c22, B22, d22, rfl, -, -, -, -⟩ := hO22.split; have HX212 := Lib.hid (show Ext w21 w22 from Ext.trans (by repeat (first | exact Ext.refl _ | apply Ext.drew' | apply Ext.alloc')) hX22); (try have x22 := (HX212.out.block (heap_lt x21)).trans x21); (try have y22 := (HX212.out.block (heap_lt y21)).trans y21); (try have z22 : w22.heap[w21.heap.size]? = some (.cells #[.slice none 0 0, .slice none 0 0] 26 (0, 0)) := (hX22.block (by simp)).trans (alloc_at (by simp))); have n22 := (heap_alloc_new w22 (.cells #[.slice none 0 0, .slice none 0 0] 26)); (try (have tx22 := keepB_set2 (b := 0) x22 (.slice A22 D'.length c22) (.slice B22 L'.length d22); obtain ⟨x221, x222, x223, x224, -⟩ := tx22)); (try (have ty22 := keepB_set2 (b := 0) y22 (.slice A22 D'.length c22) (.slice B22 L'.length d22); obtain ⟨y221, y222, y223, y224, -⟩ := ty22)); (try (have tz22 := keepB_set2 (b := 0) z22 (.slice A22 D'.length c22) (.slice B22 L'.length d22); obtain ⟨z221, z222, z223, z224, -⟩ := tz22)); (try (have tn22 := keepB_set2 (b := 0) n22 (.slice A22 D'.length c22) (.slice B22 L'.length d22); obtain ⟨n221, n222, n223, n224, -⟩ := tn22))))
          all_goals
            go_wp2_with fail
            go_meet
            case rel =>
              have s20 := HX20.out.size
              have s21 := HX201.out.size
              have s22 := HX212.out.size
              first
                | exact ⟨_, _, _, _, _, rfl, rfl, Lib.hid (own_put (by repeat (first | exact HX20.out.trans HX201.out | apply Ext.drew' | apply Ext.alloc')) hX22 hO22 ⟨w22, Ext.refl _, x22, rfl⟩ (Nat.le_refl _))⟩
                | exact ⟨_, _, _, _, _, rfl, rfl, Lib.hid (own_put (by repeat (first | exact HX20.out.trans HX201.out | apply Ext.drew' | apply Ext.alloc')) hX22 hO22 ⟨w22, Ext.refl _, y22, rfl⟩ s20)⟩
                | exact ⟨_, _, _, _, _, rfl, rfl, Lib.hid (own_put (by repeat (first | exact HX20.out.trans HX201.out | apply Ext.drew' | apply Ext.alloc')) hX22 hO22 ⟨w22, Ext.refl _, z22, rfl⟩ (Nat.le_trans s20 s21))⟩
                | exact ⟨_, _, _, _, _, rfl, rfl, Lib.hid (own_put (by repeat (first | exact HX20.out.trans HX201.out | apply Ext.drew' | apply Ext.alloc')) hX22 hO22 ⟨_, Ext.alloc _ _, heap_alloc_new _ _, alloc_set2 _ _ _ _ _ _⟩ (Nat.le_trans (Nat.le_trans s20 s21) s22))⟩
        case rest =>
          obtain ⟨m15, A15, c15, B15, d15, rfl, rfl, HR15⟩ := hcut
          obtain ⟨wF, hwF⟩ : ∃ W, W = wc := ⟨_, rfl⟩
          subst hwF
          have hxcF : Ext wc wF := hxcE.trans HR15.out.1
          obtain ⟨u0, u1⟩ := HK6.out wF hxcF
          obtain ⟨t0, t1⟩ := two_cells HR15.out.2.1
          have HQF := Lib.hid (eqDesk_any A15 B15 A6 B6 c15 d15 c6 d6 D' L' wF HR15.out.2.2.1 HR15.out.2.2.2 (HW0.out wF hxcF).1 (HW0.out wF hxcF).2)
          go_wp2_with fail
          refine HQF.out.mono ?_
          rintro e wG ⟨rfl, hxG⟩
          clear u0 u1 t0 t1
          have hxEG : Ext wE wG := HR15.out.1.trans hxG
          obtain ⟨z0, z1⟩ := two_cells (HBE.out.ext hxEG).2.2
          have HXG := Lib.hid (hxwE.trans hxEG)
          go_wp2_with fail
          refine (HH.out wG (HXDE.out.trans hxEG)).mono ?_
          rintro e wH ⟨rfl, hxH⟩
          go_wp2
          go_ret
          exact ⟨rfl, HXG.out.trans hxH⟩
section
open Go.ChangeShapes Go.WideShapes Go.ChangeAt Go.Deep
set_option maxRecDepth 100000 in
theorem FnExactDeskDo_contract (H : Type) (enc : TypeId × Value → H) (W : World) (base : Nat) (args : Array Value) (ds gs : List (DataW H)) (before : List MemPlace)
    (hval : ∀ (j : Nat) t v, Try.f6.params[j]? = some t → args[j]? = some v → Value.okWide Try.prog W .any base t v)
    (hW : DataW.Whole enc Try.prog Try.f6.params.toList Rows.fnExactDeskDoSpec.vars false W args.toList ds gs before) :
    Calls Try.prog 6 args W fun e W' => ∃ v, e = .returned v ∧ Rows.fnExactDeskDoSpec.post enc Try.prog Try.f6 false true false false W args v W' := by
  have hW' := hW
  obtain ⟨p, q, hA0, hV, rfl, hfz, hnd⟩ := hW
  have hA : DataW.TrodAll enc Try.prog W 0 (fun _ => true) true Try.f6.params.toList args.toList ds p := hA0
  rw [Try.params6] at hA hval
  obtain ⟨v0, vs0, d0, ds0, p0, q0, hargs0, rfl, rfl, h0, r0⟩ := trodAll_cons hA
  obtain ⟨v1, vs1, d1, ds1, p1, q1, hargs1, rfl, rfl, h1, r1⟩ := trodAll_cons r0
  obtain ⟨hargsn, rfl, rfl⟩ := trodAll_nil r1
  obtain rfl : args = #[v0, v1] := by cases args; simp_all
  obtain ⟨rfl, rfl⟩ := trodVars_none hV
  clear hA0
  obtain ⟨A0, c0, D, B0, d0c, L0, rfl, M0, S0⟩ := read_desk (hval 0 45 v0 rfl rfl) h0
  obtain ⟨k1, A1, c1, a, rfl, M1⟩ := read_deed (hval 1 46 v1 rfl rfl) h1
  refine (FnExactDeskDo_walk A0 c0 D B0 d0c L0 k1 A1 c1 a W M0 S0 M1).mono fun e W' ⟨he, hx⟩ => ⟨_, he, post_law laidOut (by rw [Try.params6]; decide +kernel) rfl rfl Try.underlying4 hW' rfl hx⟩
set_option maxRecDepth 100000 in
theorem FnExactDeskDo_lifted (os : Os) (started : os.Started) (H : Type) (enc : TypeId × Value → H) :
    ReturnsInHanded {} Try.checked os 6 .any (Rows.fnExactDeskDoSpec.pre6 enc Try.prog Try.f6 Rows.fnExactDeskDoRow.domain false) (Rows.fnExactDeskDoSpec.post enc Try.prog Try.f6 false true false false) := by
  refine returnsInHanded_of_change (C := Try.checked) own started (by kernel_rfl) Try.func6
    (ChangeSpec.witness6 (enc := enc) (C := Try.checked) false ⟨#[], #[.agg #[.slice none 0 0, .slice none 0 0], .agg #[.int .i64 0, .slice none 0 0]], []⟩ 8 (by kernel_rfl) (by kernel_rfl) (by kernel_rfl) (by kernel_rfl) rfl) ?_
  intro W base args ds gs before hval hW _ _
  exact FnExactDeskDo_contract H enc W base args ds gs before hval hW
theorem FnExactDeskDo_holds : Rows.FnExactDeskDoSaid :=
  OpenClaim.holds_of_wide 6 Try.f6 rfl rfl rfl rfl rfl rfl rfl ⟨rfl, rfl, rfl, rfl, rfl⟩ rfl rfl rfl rfl rfl (by kernel_rfl) Try.func6 (by kernel_rfl)
    (of_decide_eq_true (by kernel_rfl)) (by unfold Func.isWrapper; first | (rw [if_pos (by decide +kernel)]; kernel_rfl) | (rw [if_neg (by decide +kernel)]; exact ⟨rfl, rfl⟩))
    (fun os started H enc _ => FnExactDeskDo_lifted os started H enc)
end
end Go.Proofs.Ytbkefojepelggaa
