/- What is proved: the law FnDeskRun returns true for every input (if l20Deed draws a deed), and its argument reads behind the call as before. -/
import Derived.Test.YtbkefojepelggaaDrRun
import Derived.Test.YtbkefojepelggaaRunS
import Derived.Test.YtbkefojepelggaaRunP
import Derived.Test.YtbkefojepelggaaLawFnDeskDo
namespace Go.Proofs.Ytbkefojepelggaa
open Go.RowKit
theorem mats_none (W : World) : MatS W none 0 [] := (OwnS.nil 0 W (fun _ => .slice none 0 0) (fun _ _ => .slice none 0 0)).mats_of.2
theorem DeedsM.drop' {w : World} {q : Nat} {c : Nat} {ds : List (Int × List Int)} (h : DeedsM w (some ⟨q, 0, none⟩) c ds) {n : Nat} (hn : n ≤ ds.length) : DeedsM w (if c = n then some ⟨q, 0, none⟩ else some ⟨q, n * 2, none⟩) (c - n) (ds.drop n) := by
  have h1 := (h.drop hn).1
  rw [Nat.zero_add] at h1
  by_cases e : c = n
  · have hl : (ds.drop n).length = 0 := by have := h.1; rw [List.length_drop]; omega
    obtain ⟨g1, g2, -⟩ := h1
    exact ⟨g1, g2, 0, 0, fun k => absurd k (by omega), fun i hi => absurd hi (by omega)⟩
  · rw [if_neg e]
    exact h1
/-- a desk of one's own stored in a new block -/
theorem own_stored {w8 wc w10 wf : World} {m10 : Nat} {A B : Option Addr} {c d : Nat} {D : List (List Int)} {L : List (List (List Int))} (hx : Ext w8 wc) (hX : Ext wc w10) (hO : OwnDk wc.heap.size w10 (.agg #[.slice A D.length c, .slice B L.length d]) D L)
    (hm : ∃ wz, Ext w10 wz ∧ wz.heap[m10]? = some (.cells #[.slice none 0 0, .slice none 0 0] 26 (0, 0)) ∧ wf = (wz.setCell ⟨m10, 0, none⟩ (.slice A D.length c)).setCell ⟨m10, 1, none⟩ (.slice B L.length d)) (hm10 : w8.heap.size ≤ m10) :
    Ext w8 wf ∧ wf.heap[m10]? = some (.cells #[.slice A D.length c, .slice B L.length d] 26 (0, 0)) ∧ Mat wf A c D ∧ MatS wf B d L := by
  obtain ⟨wz, hz1, hz2, rfl⟩ := hm
  obtain ⟨Aq, cq, Bq, dq, eq, m1q, m2q, -, -⟩ := ((hO.keep (KeepB.of_ext hz1)).keep (keepB_set2 hz2 (.slice A D.length c) (.slice B L.length d)).2.2.2.2.2.2).split
  simp only [Value.agg.injEq, Array.mk.injEq, List.cons.injEq, Value.slice.injEq] at eq
  obtain ⟨⟨rfl, -, rfl⟩, ⟨rfl, -, rfl⟩, -⟩ := eq
  exact ⟨(((hx.trans hX).trans hz1).setCell' (p := ⟨m10, 0, none⟩) hm10 _).setCell' (p := ⟨m10, 1, none⟩) hm10 _, set_1 (set_0 hz2), m1q, m2q⟩
set_option maxHeartbeats 2000000 in
theorem noDesk_any (A B : Option Addr) (c d : Nat) (D : List (List Int)) (L : List (List (List Int))) (w : World) (h1 : Mat w A c D) (h2 : MatS w B d L) (b : Bool) (hb : b = true ↔ L = [] ∧ D = []) :
    Calls Try.prog 20 #[.agg #[.slice A D.length c, .slice B L.length d]] w fun e w' => e = .returned (.bool b) ∧ Ext w w' := by
  have HC := Lib.hid (fun W (q : Ext w W) => sameDesk_v A B c d D L none none 0 0 [] [] W (h1.ext q) (h2.ext q) (Mat.nil _ _ _ (Nat.zero_le _)) (mats_none W) b hb)
  clear h1 h2 hb
  go_enter Try.func20, Try.ntmps20
  go_wp2_with fail
  refine (HC.out _ (by repeat (first | exact Ext.refl _ | apply Ext.alloc' | apply Ext.drew'))).mono ?_
  rintro e w1 ⟨rfl, hx⟩
  go_wp2
  go_ret
  exact ⟨rfl, by repeat (first | exact hx | refine Ext.trans ?_ hx | exact Ext.refl _ | apply Ext.alloc' | apply Ext.drew')⟩
set_option maxRecDepth 100000 in
set_option maxHeartbeats 8000000 in
theorem FnDeskRun_walk0 (hDeed : DeedAny) (A : Option Addr) (n c : Nat) (w : World) (h : Byt w A n c) :
    Calls Try.prog 5 #[.slice A n c] w fun e w' => e = .returned (.bool true) ∧ Ext w w' := by
  by_cases hz : 1048576 < n
  · have hz' : (1048576 : Int) < (n : Nat) := by omega
    go_enter Try.func5, Try.ntmps5
    go_wp2
    go_ret
    exact ⟨rfl, (by repeat (first | exact Ext.refl _ | assumption | apply Ext.drewN' | apply Ext.alloc' | refine Ext.trans ?_ (by assumption)))⟩
  have hz' : ¬ (1048576 : Int) < (n : Nat) := by omega
  go_enter Try.func5, Try.ntmps5
  go_wp2_with fail
  refine (drawDeskRun_any hDeed A n c w h).mono ?_
  rintro e w1 ⟨A1, c1, B1, d1, D, L, _, x1, ds, rfl, hM, hS, hI, ⟨q1, rfl⟩, hl41, hx1⟩
  have HM := Lib.hid hM
  have HS := Lib.hid hS
  have HI := Lib.hid hI
  have hl1 := hI.1
  have hl2 := hI.2.1
  unfold maxLen at hl2
  clear hM hS hI
  have HRI := Lib.hid (fun W (q : Ext w1 W) => iDeskRun_any A1 B1 c1 d1 D L (some ⟨q1, 0, none⟩) x1 ds W (HM.out.ext q) (HS.out.ext q) (HI.out.ext q))
  have HRS := Lib.hid (fun W (q : Ext w1 W) => sDeskRun_any A1 B1 c1 d1 D L (some ⟨q1, 0, none⟩) x1 ds W (HM.out.ext q) (HS.out.ext q) (HI.out.ext q))
  have HSO := Lib.hid (fun W (q : Ext w1 W) => sDeskOk_any A1 B1 c1 d1 D L W (HM.out.ext q) (HS.out.ext q))
  have HBAD := Lib.hid (show ¬ (deskB D L = true ∧ ds.length ≤ 40) → runV D L ds = ([], [], 0) from fun h => by unfold runV; rw [if_neg h])
  have HGOOD := Lib.hid (show (deskB D L = true ∧ ds.length ≤ 40) → deskB (runV D L ds).1 (runV D L ds).2.1 = true from fun h => by unfold runV; rw [if_pos h]; exact runR_desk ds ds.length 0 D L 0 h.1)
  have HHALF := Lib.hid (fun (h : deskB D L = true ∧ ds.length ≤ 40) => run_halves (h := ds.length / 2) h.1 h.2 (by omega))
  obtain ⟨⟨X, Y, N⟩, hr⟩ : ∃ r, runV D L ds = r := ⟨_, rfl⟩
  rw [hr] at HRI HRS HBAD HGOOD HHALF
  simp only at HRI HRS HGOOD HHALF
  clear hr
  obtain ⟨w2, hw2⟩ : ∃ W, w1.alloc (.cells #[.slice A1 D.length c1, .slice B1 L.length d1] 26) = W := ⟨_, rfl⟩
  have hx2 : Ext w1 w2 := by rw [← hw2]; exact Ext.alloc _ _
  have hb2 := heap_alloc_new w1 (.cells #[.slice A1 D.length c1, .slice B1 L.length d1] 26)
  rw [hw2] at hb2
  have HC := Lib.hid (fun W (q : Ext w2 W) => two_cells ((q.block (heap_lt hb2)).trans hb2))
  obtain ⟨p0, p1⟩ := HC.out w2 (Ext.refl _)
  clear hb2
  go_wp2_with fail
  refine (HRI.out _ hx2).mono ?_
  rintro e w3 ⟨v3, rfl, hO3, hx3⟩
  obtain ⟨A3, c3, B3, d3, rfl, hM3, hS3, -, -⟩ := hO3.split
  have HM3 := Lib.hid hM3
  have HS3 := Lib.hid hS3
  obtain ⟨w4, hw4⟩ : ∃ W, w3.alloc (.cells #[.slice A3 X.length c3, .slice B3 Y.length d3] 26) = W := ⟨_, rfl⟩
  have hx34 : Ext w3 w4 := by rw [← hw4]; exact Ext.alloc _ _
  have hb4 := heap_alloc_new w3 (.cells #[.slice A3 X.length c3, .slice B3 Y.length d3] 26)
  rw [hw4] at hb4
  have HC4 := Lib.hid (fun W (q : Ext w4 W) => two_cells ((q.block (heap_lt hb4)).trans hb4))
  have hx24 : Ext w2 w4 := hx3.trans hx34
  clear p0 p1 hO3 hM3 hS3 hb4
  obtain ⟨p0, p1⟩ := HC.out w4 hx24
  go_wp2_with fail
  refine (HRS.out _ (hx2.trans hx24)).mono ?_
  rintro e w5 ⟨A5, c5, B5, d5, rfl, hM5, hS5, hx5⟩
  have HM5 := Lib.hid hM5
  have HS5 := Lib.hid hS5
  obtain ⟨w6, hw6⟩ : ∃ W, w5.alloc (.cells #[.slice A5 X.length c5, .slice B5 Y.length d5] 26) = W := ⟨_, rfl⟩
  have hx56 : Ext w5 w6 := by rw [← hw6]; exact Ext.alloc _ _
  have hb6 := heap_alloc_new w5 (.cells #[.slice A5 X.length c5, .slice B5 Y.length d5] 26)
  rw [hw6] at hb6
  obtain ⟨s0, s1⟩ := two_cells hb6
  have hx46 : Ext w4 w6 := hx5.trans hx56
  clear p0 p1 hM5 hS5 hb6
  obtain ⟨r0, r1⟩ := HC4.out w6 hx46
  have HA6 := Lib.hid (sameDesk_v A3 B3 c3 d3 X Y A5 B5 c5 d5 X Y w6 (HM3.out.ext (hx34.trans hx46)) (HS3.out.ext (hx34.trans hx46)) (HM5.out.ext hx56) (HS5.out.ext hx56) true (by simp))
  go_wp2_with fail
  refine HA6.out.mono ?_
  rintro e w7 ⟨rfl, hx7⟩
  have hx47 : Ext w4 w7 := hx46.trans hx7
  clear s0 s1 r0 r1
  obtain ⟨p0, p1⟩ := HC.out w7 (hx24.trans hx47)
  have hx17 : Ext w1 w7 := hx2.trans (hx24.trans hx47)
  have hx37 := hx34.trans hx47
  have HW := Lib.hid (hx1.trans hx17)
  have HSO7 := Lib.hid (HSO.out w7 hx17)
  by_cases hgood : deskB D L = true ∧ ds.length ≤ 40
  · have HH := Lib.hid (HHALF.out hgood)
    have HDX := Lib.hid (HGOOD.out hgood)
    rw [hgood.1] at HSO7
    have hl40 : ¬ (40 : Int) < (ds.length : Nat) := by have := hgood.2; omega
    clear hgood HBAD HGOOD HHALF HRI HRS HSO
    go_wp2_with fail
    refine HSO7.out.mono ?_
    rintro e w8 ⟨rfl, hx8⟩
    clear p0 p1
    obtain ⟨hf, hhf⟩ : ∃ h, ds.length / 2 = h := ⟨_, rfl⟩
    rw [hhf] at HH
    have hfl : hf ≤ ds.length := by omega
    have wdiv : IntKind.i64.wrap (((ds.length : Nat) : Int).tdiv 2) = (hf : Int) := by
      have e1 : ((ds.length : Nat) : Int).tdiv 2 = (hf : Int) := by
        rw [Int.tdiv_eq_ediv_of_nonneg (by omega)]; omega
      rw [e1]
      exact IntWalk.i64_in _ ⟨by omega, by omega⟩
    have tdiv : ((ds.length : Nat) : Int).tdiv 2 = (hf : Int) := by
      rw [Int.tdiv_eq_ediv_of_nonneg (by omega)]; omega
    have wh : IntKind.i64.wrap (hf : Int) = (hf : Int) := IntWalk.i64_in _ ⟨by omega, by omega⟩
    have k1 : (0 : Int) ≤ (hf : Nat) := by omega
    have k2 : (hf : Int) ≤ (ds.length : Nat) := by omega
    have k3 : (hf : Int) ≤ (x1 : Nat) := by omega
    have k4 : (ds.length : Int) ≤ (x1 : Nat) := by omega
    have HXY := Lib.hid hx7
    go_upto_region 11 with fail
    go_cut [10, 11] (fun s10 s11 wx => ∃ m10 A' c' B' d' X1 Y1 P1, s10 = .pointer (some ⟨m10, 0, none⟩) ∧ s11 = .int .i64 P1 ∧ Hid (runV D L (ds.take hf) = (X1, Y1, P1)) ∧ Hid (Ext w8 wx ∧ wx.heap[m10]? = some (.cells #[.slice A' (List.length X1) c', .slice B' (List.length Y1) d'] 26 (0, 0)) ∧ Mat wx A' c' X1 ∧ MatS wx B' d' Y1))
    case first =>
      have hx28 : Ext w2 w8 := (hx24.trans hx47).trans hx8
      have HRT0 := fun W (q : Ext w1 W) => iDeskRun_any A1 B1 c1 d1 D L (some ⟨q1, 0, none⟩) x1 (ds.take hf) W (HM.out.ext q) (HS.out.ext q) ((HI.out.ext q).take hfl).1
      rw [(HI.out.take hfl).2] at HRT0
      have HRT := Lib.hid HRT0
      clear HRT0
      obtain ⟨p0, p1⟩ := HC.out w8 hx28
      have p0' : ∀ o, (w8.alloc o).cell? ⟨w1.heap.size, 0, none⟩ = some _ := fun o => (HC.out (w8.alloc o) (hx28.alloc' o)).1
      have p1' : ∀ o, (w8.alloc o).cell? ⟨w1.heap.size, 1, none⟩ = some _ := fun o => (HC.out (w8.alloc o) (hx28.alloc' o)).2
      obtain ⟨⟨X1, Y1, P1⟩, hr1⟩ : ∃ r, runV D L (ds.take hf) = r := ⟨_, rfl⟩
      rw [hr1] at HRT
      simp only at HRT
      have HR1 := Lib.hid hr1
      clear hr1 hx28
      go_wp2_with fail
      go_region_law (go_simp; go_at_call 18; (fail_if_success (have q := hX10)); refine (HRT.out _ (by repeat (first | exact hx17.trans hx8 | apply Ext.alloc' | apply Ext.drew'))).mono ?_; rintro e w10 ⟨v10, rfl, hO10, hX10⟩; obtain ⟨A10, c10, B10, d10, rfl, -, -, -, -⟩ := hO10.split; obtain ⟨z1, z2, z3, z4, -⟩ := keepB_set2 (b := 0) (heap_alloc_new w10 (.cells #[.slice none 0 0, .slice none 0 0] 26)) (.slice A10 X1.length c10) (.slice B10 Y1.length d10); (try have x8 : w10.heap[w8.heap.size]? = some (.cells #[.slice none 0 0, .slice none 0 0] 26 (0, 0)) := (hX10.block (by simp)).trans (alloc_at (by simp))); (try (have y8 := keepB_set2 (b := 0) x8 (.slice A10 X1.length c10) (.slice B10 Y1.length d10); obtain ⟨t1, t2, t3, t4, -⟩ := y8)))
      all_goals
        go_wp2_with fail
        go_meet
        case rel =>
          first
            | exact ⟨_, _, _, _, _, _, _, _, rfl, rfl, HR1, Lib.hid (own_stored (wc := w8.drew.alloc _) (by repeat (first | exact Ext.refl _ | apply Ext.alloc' | apply Ext.drew')) hX10 hO10 ⟨w10, Ext.refl _, x8, rfl⟩ (Nat.le_refl _))⟩
            | exact ⟨_, _, _, _, _, _, _, _, rfl, rfl, HR1, Lib.hid (own_stored (wc := w8.drew) (by repeat (first | exact Ext.refl _ | apply Ext.alloc' | apply Ext.drew')) hX10 hO10 ⟨_, Ext.alloc _ _, heap_alloc_new _ _, alloc_set2 _ _ _ _ _ _⟩ hX10.size)⟩
    case rest =>
      obtain ⟨m10, A10, c10, B10, d10, X1, Y1, P1, rfl, rfl, HR1, HT⟩ := hcut
      rw [HR1.out] at HH
      simp only at HH
      obtain ⟨X2, hX2⟩ : ∃ r, (runV X1 Y1 (ds.drop hf)).1 = r := ⟨_, rfl⟩
      obtain ⟨Y2, hY2⟩ : ∃ r, (runV X1 Y1 (ds.drop hf)).2.1 = r := ⟨_, rfl⟩
      obtain ⟨P2, hP2⟩ : ∃ r, (runV X1 Y1 (ds.drop hf)).2.2 = r := ⟨_, rfl⟩
      rw [hX2, hY2, hP2] at HH
      obtain ⟨-, ⟨l1, l2⟩, rfl, rfl, ⟨l3, l4⟩, hsum⟩ := HH.out
      have HRU0 := fun W (q : Ext wc W) => iDeskRun_any A10 B10 c10 d10 X1 Y1 (if x1 = hf then some ⟨q1, 0, none⟩ else some ⟨q1, hf * 2, none⟩) (x1 - hf) (ds.drop hf) W (HT.out.2.2.1.ext q) (HT.out.2.2.2.ext q) ((HI.out.ext ((hx17.trans hx8).trans (HT.out.1.trans q))).drop' hfl)
      rw [(HI.out.drop hfl).2, hX2, hY2, hP2] at HRU0
      obtain ⟨AX, hAX⟩ : ∃ a, (if x1 = hf then (some ⟨q1, 0, none⟩ : Option Addr) else some ⟨q1, hf * 2, none⟩) = a := ⟨_, rfl⟩
      rw [hAX] at HRU0
      have HRU := Lib.hid HRU0
      have HSUM := Lib.hid hsum
      obtain ⟨v0, v1⟩ := two_cells HT.out.2.1
      have v0' : ∀ o, (wc.alloc o).cell? ⟨m10, 0, none⟩ = some _ := fun o => (Ext.alloc wc o).cell v0
      have v1' : ∀ o, (wc.alloc o).cell? ⟨m10, 1, none⟩ = some _ := fun o => (Ext.alloc wc o).cell v1
      clear HRU0 HH hX2 hY2 hP2 hsum
      go_upto_region 12 with fail
      go_cut [12, 13] (fun s12 s13 wx => ∃ m12 A' c' B' d', s12 = .pointer (some ⟨m12, 0, none⟩) ∧ s13 = .int .i64 P2 ∧ Hid (Ext wc wx ∧ wx.heap[m12]? = some (.cells #[.slice A' (List.length X2) c', .slice B' (List.length Y2) d'] 26 (0, 0)) ∧ Mat wx A' c' X2 ∧ MatS wx B' d' Y2))
      case first =>
        go_wp2_with fail
        go_region_law (go_simp; go_at_call 18; (fail_if_success (have q := hX11)); refine (HRU.out _ (by repeat (first | exact Ext.refl _ | apply Ext.alloc' | apply Ext.drew'))).mono ?_; rintro e w11 ⟨v11, rfl, hO11, hX11⟩; obtain ⟨A11, c11, B11, d11, rfl, -, -, -, -⟩ := hO11.split; obtain ⟨z1, z2, z3, z4, -⟩ := keepB_set2 (b := 0) (heap_alloc_new w11 (.cells #[.slice none 0 0, .slice none 0 0] 26)) (.slice A11 X2.length c11) (.slice B11 Y2.length d11); (try have x8 : w11.heap[wc.heap.size]? = some (.cells #[.slice none 0 0, .slice none 0 0] 26 (0, 0)) := (hX11.block (by simp)).trans (alloc_at (by simp))); (try (have y8 := keepB_set2 (b := 0) x8 (.slice A11 X2.length c11) (.slice B11 Y2.length d11); obtain ⟨t1, t2, t3, t4, -⟩ := y8)))
        all_goals
          go_wp2_with fail
          go_meet
          case rel =>
            first
              | exact ⟨_, _, _, _, _, rfl, rfl, Lib.hid (own_stored (wc := wc.drew.alloc _) (by repeat (first | exact Ext.refl _ | apply Ext.alloc' | apply Ext.drew')) hX11 hO11 ⟨w11, Ext.refl _, x8, rfl⟩ (Nat.le_refl _))⟩
              | exact ⟨_, _, _, _, _, rfl, rfl, Lib.hid (own_stored (wc := wc.drew) (by repeat (first | exact Ext.refl _ | apply Ext.alloc' | apply Ext.drew')) hX11 hO11 ⟨_, Ext.alloc _ _, heap_alloc_new _ _, alloc_set2 _ _ _ _ _ _⟩ hX11.size)⟩
      case rest =>
        obtain ⟨m12, A12, c12, B12, d12, rfl, rfl, HU⟩ := hcut
        have hx8w := HT.out.1.trans HU.out.1
        have hx4w := (hx47.trans hx8).trans hx8w
        obtain ⟨r0, r1⟩ := HC4.out wc hx4w
        have HUC := Lib.hid (fun W (q : Ext wc W) => two_cells ((q.block (heap_lt HU.out.2.1)).trans HU.out.2.1))
        have HA := Lib.hid (iDeskOk_any A3 B3 c3 d3 X2 Y2 wc (HM3.out.ext (hx34.trans hx4w)) (HS3.out.ext (hx34.trans hx4w)))
        rw [HDX.out] at HA
        have HSD := Lib.hid (fun W (q : Ext wc W) => sameDesk_v A12 B12 c12 d12 X2 Y2 A3 B3 c3 d3 X2 Y2 W (HU.out.2.2.1.ext q) (HU.out.2.2.2.ext q) (HM3.out.ext ((hx34.trans hx4w).trans q)) (HS3.out.ext ((hx34.trans hx4w).trans q)) true (by simp))
        have wsum : IntKind.i64.wrap (P1 + P2) = P1 + P2 := IntWalk.i64_in _ ⟨by omega, by omega⟩
        have hN : ((P1 + P2 : Int) == N) = true := beq_iff_eq.2 HSUM.out
        have HWw := Lib.hid ((HW.out.trans hx8).trans hx8w)
        clear v0 v1 v0' v1' hAX
        go_wp2_with fail
        refine HA.out.mono ?_
        rintro e wd ⟨rfl, hxd⟩
        clear r0 r1
        obtain ⟨r0, r1⟩ := HC4.out wd (hx4w.trans hxd)
        obtain ⟨u0, u1⟩ := HUC.out wd hxd
        go_wp2_with fail
        refine (HSD.out wd hxd).mono ?_
        rintro e we ⟨rfl, hxe⟩
        clear r0 r1 u0 u1
        go_wp2
        go_ret
        exact ⟨rfl, (HWw.out.trans hxd).trans hxe⟩
  · obtain ⟨rfl, rfl, rfl⟩ : X = [] ∧ Y = [] ∧ N = 0 := by
      have := HBAD.out hgood
      simp only [Prod.mk.injEq] at this
      exact this
    clear HBAD HGOOD HHALF HRI HRS HSO
    have HND := Lib.hid (fun W (q : Ext w7 W) => noDesk_any A3 B3 c3 d3 [] [] W (HM3.out.ext (hx37.trans q)) (HS3.out.ext (hx37.trans q)) true (by simp))
    cases hd : deskB D L with
    | false =>
      rw [hd] at HSO7
      clear hgood hd
      go_wp2_with fail
      refine HSO7.out.mono ?_
      rintro e w8 ⟨rfl, hx8⟩
      obtain ⟨r0, r1⟩ := HC4.out w8 (hx47.trans hx8)
      clear p0 p1
      go_wp2_with fail
      refine (HND.out w8 hx8).mono ?_
      rintro e w9 ⟨rfl, hx9⟩
      go_wp2_with fail
      refine (alive_any _).mono ?_
      rintro e w10 ⟨rfl, hx10⟩
      go_wp2
      go_ret
      exact ⟨rfl, ((HW.out.trans hx8).trans hx9).trans hx10⟩
    | true =>
      rw [hd] at HSO7
      have hl40 : (40 : Int) < (ds.length : Nat) := by
        have : ¬ ds.length ≤ 40 := fun e => hgood ⟨hd, e⟩
        omega
      clear hgood hd
      go_wp2_with fail
      refine HSO7.out.mono ?_
      rintro e w8 ⟨rfl, hx8⟩
      obtain ⟨r0, r1⟩ := HC4.out w8 (hx47.trans hx8)
      clear p0 p1
      go_wp2_with fail
      refine (HND.out w8 hx8).mono ?_
      rintro e w9 ⟨rfl, hx9⟩
      go_wp2_with fail
      refine (alive_any _).mono ?_
      rintro e w10 ⟨rfl, hx10⟩
      go_wp2
      go_ret
      exact ⟨rfl, ((HW.out.trans hx8).trans hx9).trans hx10⟩
end Go.Proofs.Ytbkefojepelggaa
