/- What is proved: the law FnDeskDo returns true for every input (if l20Deed draws a deed), and its argument reads behind the call as before. -/
import Derived.Test.YtbkefojepelggaaDrDo
import Derived.Test.YtbkefojepelggaaDoP
import Derived.Test.YtbkefojepelggaaUlt
import Derived.Test.YtbkefojepelggaaAlive
namespace Go.Proofs.Ytbkefojepelggaa
open Go.RowKit
theorem sameDesk_v (A B : Option Addr) (c d : Nat) (D : List (List Int)) (L : List (List (List Int))) (A' B' : Option Addr) (c' d' : Nat) (E : List (List Int)) (M : List (List (List Int))) (w : World) (h1 : Mat w A c D) (h2 : MatS w B d L) (k1 : Mat w A' c' E) (k2 : MatS w B' d' M) (b : Bool) (hb : b = true ↔ L = M ∧ D = E) :
    Calls Try.prog 15 #[.agg #[.slice A D.length c, .slice B L.length d], .agg #[.slice A' E.length c', .slice B' M.length d']] w fun e w' => e = .returned (.bool b) ∧ Ext w w' := by
  have e : (decide (L = M) && eqM D E) = b := by
    rw [Bool.eq_iff_iff, hb]
    simp only [Bool.and_eq_true, decide_eq_true_eq]
    exact and_congr_right fun _ => decide_eq_true_iff
  rw [← e]
  exact sameDesk_any A B c d D L A' B' c' d' E M w h1 h2 k1 k2
set_option maxHeartbeats 2000000 in
theorem FnDeskDo_walk0 (hDeed : DeedAny) (A : Option Addr) (n c : Nat) (w : World) (h : Byt w A n c) :
    Calls Try.prog 4 #[.slice A n c] w fun e w' => e = .returned (.bool true) ∧ Ext w w' := by
  by_cases hz : 1048576 < n
  · have hz' : (1048576 : Int) < (n : Nat) := by omega
    go_enter Try.func4, Try.ntmps4
    go_wp2
    go_ret
    exact ⟨rfl, (by repeat (first | exact Ext.refl _ | assumption | apply Ext.drewN' | apply Ext.alloc' | refine Ext.trans ?_ (by assumption)))⟩
  have hz' : ¬ (1048576 : Int) < (n : Nat) := by omega
  go_enter Try.func4, Try.ntmps4
  go_wp2_with fail
  refine (drawDeskDo_any hDeed A n c w h).mono ?_
  rintro e w1 ⟨A1, c1, B1, d1, D, L, kind, X1, x1, xs, rfl, hM, hS, hI, hx1⟩
  have HM := Lib.hid hM
  have HS := Lib.hid hS
  have HI := Lib.hid hI
  clear hM hS hI
  have HK := Lib.hid (keep_law (D := D) (L := L) (kind := kind) (xs := xs))
  have HU := Lib.hid (undo_law (D := D) (L := L) (kind := kind) (xs := xs))
  have HBL := Lib.hid (fun (e : kind = 3) (h : vB D L kind xs = true) => show spB (vD D L kind xs) = true ∧ ∀ i, i < (vD D L kind xs).length → ∀ k, k < (vD D L kind xs).length → ∀ j, j < (vD D L kind xs).length → at2 (vD D L kind xs) i k ≤ max (at2 (vD D L kind xs) i j) (at2 (vD D L kind xs) j k) by subst e; exact below_law h)
  have HV := Lib.hid (v_desk' (D := D) (L := L) (kind := kind) (xs := xs))
  have HDI := Lib.hid (fun W (q : Ext w1 W) => iDeskDo_any A1 B1 c1 d1 D L kind X1 x1 xs W (HM.out.ext q) (HS.out.ext q) (HI.out.ext q))
  have HDS := Lib.hid (fun W (q : Ext w1 W) => sDeskDo_any A1 B1 c1 d1 D L kind X1 x1 xs W (HM.out.ext q) (HS.out.ext q) (HI.out.ext q))
  obtain ⟨X, hX⟩ : ∃ X, vD D L kind xs = X := ⟨_, rfl⟩
  obtain ⟨Y, hY⟩ : ∃ X, vL D L kind xs = X := ⟨_, rfl⟩
  obtain ⟨b, hb⟩ : ∃ X, vB D L kind xs = X := ⟨_, rfl⟩
  rw [hX, hY, hb] at HK HU HDI HDS HV
  rw [hX, hb] at HBL
  clear hX hY hb
  obtain ⟨w2, hw2⟩ : ∃ W, (w1.alloc (.cells #[.slice A1 D.length c1, .slice B1 L.length d1] 26)).alloc (.cells #[.int .i64 kind, .slice X1 xs.length x1] 33) = W := ⟨_, rfl⟩
  have HC := Lib.hid (fun W (q : Ext w2 W) => (by obtain ⟨b0, b1, hx, -⟩ := two_blocks (by rw [hw2]; exact q); exact ⟨two_cells b0, two_cells b1, hx⟩ : (W.cell? ⟨w1.heap.size, 0, none⟩ = some (.slice A1 D.length c1) ∧ W.cell? ⟨w1.heap.size, 1, none⟩ = some (.slice B1 L.length d1)) ∧ (W.cell? ⟨w1.heap.size + 1, 0, none⟩ = some (.int .i64 kind) ∧ W.cell? ⟨w1.heap.size + 1, 1, none⟩ = some (.slice X1 xs.length x1)) ∧ Ext w1 W))
  obtain ⟨⟨p0, p1⟩, ⟨q0, q1⟩, hx2⟩ := HC.out w2 (Ext.refl _)
  go_wp2_with fail
  refine (HDI.out _ hx2).mono ?_
  rintro e w3 ⟨v3, rfl, hO3, hx3⟩
  obtain ⟨A3, c3, B3, d3, rfl, hM3, hS3, -, -⟩ := hO3.split
  have HM3 := Lib.hid hM3
  have HS3 := Lib.hid hS3
  obtain ⟨w4, hw4⟩ : ∃ W, w3.alloc (.cells #[.slice A3 X.length c3, .slice B3 Y.length d3] 26) = W := ⟨_, rfl⟩
  have hx34 : Ext w3 w4 := by rw [← hw4]; exact Ext.alloc _ _
  have hb4 := heap_alloc_new w3 (.cells #[.slice A3 X.length c3, .slice B3 Y.length d3] 26)
  rw [hw4] at hb4
  have HC4 := Lib.hid (fun W (q : Ext w4 W) => two_cells ((q.block (heap_lt hb4)).trans hb4))
  have hx24 : Ext w2 w4 := hx3.trans hx34
  clear p0 p1 q0 q1 hO3 hM3 hS3 hb4
  obtain ⟨⟨p0, p1⟩, ⟨q0, q1⟩, hx14⟩ := HC.out w4 hx24
  obtain ⟨r0, r1⟩ := HC4.out w4 (Ext.refl _)
  go_wp2_with fail
  refine (HDS.out _ hx14).mono ?_
  rintro e w5 ⟨A5, c5, B5, d5, rfl, hF5, hx5, -⟩
  have HM5 := Lib.hid hF5.now.1
  have HS5 := Lib.hid hF5.now.2
  obtain ⟨w6, hw6⟩ : ∃ W, w5.alloc (.cells #[.slice A5 X.length c5, .slice B5 Y.length d5] 26) = W := ⟨_, rfl⟩
  have hx56 : Ext w5 w6 := by rw [← hw6]; exact Ext.alloc _ _
  have hb6 := heap_alloc_new w5 (.cells #[.slice A5 X.length c5, .slice B5 Y.length d5] 26)
  rw [hw6] at hb6
  obtain ⟨s0, s1⟩ := two_cells hb6
  have hx46 : Ext w4 w6 := hx5.trans hx56
  clear p0 p1 q0 q1 r0 r1 hF5 hb6
  obtain ⟨r0, r1⟩ := HC4.out w6 hx46
  have HA6 := Lib.hid (sameDesk_v A3 B3 c3 d3 X Y A5 B5 c5 d5 X Y w6 (HM3.out.ext (hx34.trans hx46)) (HS3.out.ext (hx34.trans hx46)) (HM5.out.ext hx56) (HS5.out.ext hx56) true (by simp))
  go_wp2_with fail
  refine HA6.out.mono ?_
  rintro e w7 ⟨rfl, hx7⟩
  have hx47 : Ext w4 w7 := hx46.trans hx7
  clear s0 s1 r0 r1
  obtain ⟨⟨p0, p1⟩, ⟨q0, q1⟩, hx17⟩ := HC.out w7 (hx24.trans hx47)
  obtain ⟨r0, r1⟩ := HC4.out w7 hx47
  have hx37 := hx34.trans hx47
  have HW := Lib.hid (hx1.trans hx17)
  cases b with
  | false =>
    obtain ⟨t, ht⟩ : ∃ t : Bool, t = true ↔ Y = L ∧ X = D := by
      by_cases e : Y = L ∧ X = D
      · exact ⟨true, by simp [e]⟩
      · exact ⟨false, by simp [e]⟩
    have HT : Hid (deskB D L = true → t = true) := Lib.hid fun e => ht.2 (And.comm.1 (HK.out rfl e))
    have HA7 := Lib.hid (sameDesk_v A3 B3 c3 d3 X Y A1 B1 c1 d1 D L w7 (HM3.out.ext hx37) (HS3.out.ext hx37) (HM.out.ext hx17) (HS.out.ext hx17) t ht)
    clear ht HK HU HBL HV HDI HDS
    go_wp2_with fail
    refine HA7.out.mono ?_
    rintro e w8 ⟨rfl, hx8⟩
    clear p0 p1 q0 q1 r0 r1
    cases t with
    | true =>
      go_wp2_with fail
      refine (alive_any _).mono ?_
      rintro e w9 ⟨rfl, hx9⟩
      go_wp2
      go_ret
      exact ⟨rfl, (HW.out.trans hx8).trans hx9⟩
    | false =>
      have hd : deskB D L = false := by
        cases e : deskB D L with
        | false => rfl
        | true => exact absurd (HT.out e) (by decide)
      obtain ⟨⟨p0, p1⟩, ⟨q0, q1⟩, hx18⟩ := HC.out w8 ((hx24.trans hx47).trans hx8)
      have HA8 := Lib.hid (iDeskOk_any A1 B1 c1 d1 D L w8 (HM.out.ext hx18) (HS.out.ext hx18))
      rw [hd] at HA8
      clear hd
      go_wp2_with fail
      refine HA8.out.mono ?_
      rintro e w9 ⟨rfl, hx9⟩
      go_wp2_with fail
      refine (alive_any _).mono ?_
      rintro e w10 ⟨rfl, hx10⟩
      go_wp2
      go_ret
      exact ⟨rfl, ((HW.out.trans hx8).trans hx9).trans hx10⟩
  | true =>
    have HD2 := Lib.hid (fun W (q : Ext w3 W) => iDeskDo_any A3 B3 c3 d3 X Y 4 none 0 [] W (HM3.out.ext q) (HS3.out.ext q) ⟨Nat.zero_le _, Nat.zero_le _, 0, 0, fun h => absurd h (by decide), fun j hj => absurd hj (Nat.not_lt_zero j)⟩)
    have HDK := Lib.hid (HV.out rfl)
    have HUN := Lib.hid (HU.out rfl)
    obtain ⟨X2, hX2⟩ : ∃ x, vD X Y 4 [] = x := ⟨_, rfl⟩
    obtain ⟨Y2, hY2⟩ : ∃ x, vL X Y 4 [] = x := ⟨_, rfl⟩
    obtain ⟨b2, hb2⟩ : ∃ x, vB X Y 4 [] = x := ⟨_, rfl⟩
    rw [hX2, hY2, hb2] at HD2 HUN
    clear hX2 hY2 hb2 HK HU HV HDI HDS
    go_wp2_with fail
    refine (HD2.out _ hx37).mono ?_
    rintro e w8 ⟨v8, rfl, hO8, hx8⟩
    obtain ⟨A8, c8, B8, d8, rfl, hM8, hS8, -, -⟩ := hO8.split
    have HM8 := Lib.hid hM8
    have HS8 := Lib.hid hS8
    obtain ⟨w9, hw9⟩ : ∃ W, w8.alloc (.cells #[.slice A8 X2.length c8, .slice B8 Y2.length d8] 26) = W := ⟨_, rfl⟩
    have hx89 : Ext w8 w9 := by rw [← hw9]; exact Ext.alloc _ _
    have hb9 := heap_alloc_new w8 (.cells #[.slice A8 X2.length c8, .slice B8 Y2.length d8] 26)
    rw [hw9] at hb9
    have HC9 := Lib.hid (fun W (q : Ext w9 W) => two_cells ((q.block (heap_lt hb9)).trans hb9))
    clear p0 p1 q0 q1 r0 r1 hO8 hM8 hS8 hb9
    have hx79 : Ext w7 w9 := hx8.trans hx89
    obtain ⟨r0, r1⟩ := HC4.out w9 (hx47.trans hx79)
    have HA9 := Lib.hid (iDeskOk_any A3 B3 c3 d3 X Y w9 (HM3.out.ext (hx37.trans hx79)) (HS3.out.ext (hx37.trans hx79)))
    rw [HDK.out] at HA9
    go_wp2_with fail
    refine HA9.out.mono ?_
    rintro e w10 ⟨rfl, hx10⟩
    have hx7t : Ext w7 w10 := hx79.trans hx10
    clear r0 r1
    obtain ⟨⟨p0, p1⟩, ⟨q0, q1⟩, hx1t⟩ := HC.out w10 ((hx24.trans hx47).trans hx7t)
    obtain ⟨r0, r1⟩ := HC4.out w10 (hx47.trans hx7t)
    obtain ⟨s0, s1⟩ := HC9.out w10 hx10
    have HWt := Lib.hid (HW.out.trans hx7t)
    have HMt := Lib.hid (fun W (q : Ext w10 W) => HM3.out.ext ((hx37.trans hx7t).trans q))
    have HUL := Lib.hid (fun W (q : Ext w10 W) (e : kind = 3) => iUltraOk_true A3 c3 X W (HMt.out W q) (HBL.out e trivial).1 (HBL.out e trivial).2)
    by_cases k4 : kind = 4
    · subst k4
      clear HUL HBL HUN
      go_wp2
      go_ret
      exact ⟨rfl, HWt.out⟩
    · have k4' : (kind == 4) = false := beq_eq_false_iff_ne.2 k4
      by_cases l8 : 8 ≤ L.length
      · have l8' : (8 : Int) ≤ (L.length : Nat) := by omega
        clear HUN
        by_cases k3 : kind = 3
        · subst k3
          have HUL3 := Lib.hid (fun W q => HUL.out W q rfl)
          clear HUL HBL
          go_wp2_with fail
          refine (HUL3.out _ (Ext.refl _)).mono ?_
          rintro e w11 ⟨rfl, m11, rfl⟩
          go_wp2
          go_ret
          exact ⟨rfl, HWt.out.drewN' _⟩
        · have k3' : (kind == 3) = false := beq_eq_false_iff_ne.2 k3
          have k3'' : (kind != 3) = true := bne_iff_ne.2 k3
          clear HUL HBL
          go_wp2
          go_ret
          exact ⟨rfl, HWt.out⟩
      · have l8' : ¬ (8 : Int) ≤ (L.length : Nat) := by omega
        obtain ⟨rfl, rfl, rfl⟩ := HUN.out k4 (by omega)
        have HAt := Lib.hid (sameDesk_v A8 B8 c8 d8 X2 Y2 A1 B1 c1 d1 X2 Y2 w10 (HM8.out.ext (hx89.trans hx10)) (HS8.out.ext (hx89.trans hx10)) (HM.out.ext hx1t) (HS.out.ext hx1t) true (by simp))
        clear HUN
        by_cases k3 : kind = 3
        · subst k3
          have HUL3 := Lib.hid (fun W q => HUL.out W q rfl)
          clear HUL HBL
          go_wp2_with fail
          refine HAt.out.mono ?_
          rintro e w11 ⟨rfl, hx11⟩
          clear p0 p1 q0 q1 r0 r1 s0 s1
          obtain ⟨⟨p0, p1⟩, ⟨q0, q1⟩, -⟩ := HC.out w11 (((hx24.trans hx47).trans hx7t).trans hx11)
          obtain ⟨r0, r1⟩ := HC4.out w11 ((hx47.trans hx7t).trans hx11)
          go_wp2_with fail
          refine (HUL3.out _ hx11).mono ?_
          rintro e w12 ⟨rfl, m12, rfl⟩
          go_wp2
          go_ret
          exact ⟨rfl, (HWt.out.trans hx11).drewN' _⟩
        · have k3' : (kind == 3) = false := beq_eq_false_iff_ne.2 k3
          have k3'' : (kind != 3) = true := bne_iff_ne.2 k3
          clear HUL HBL
          go_wp2_with fail
          refine HAt.out.mono ?_
          rintro e w11 ⟨rfl, hx11⟩
          clear p0 p1 q0 q1 r0 r1 s0 s1
          obtain ⟨⟨p0, p1⟩, ⟨q0, q1⟩, -⟩ := HC.out w11 (((hx24.trans hx47).trans hx7t).trans hx11)
          go_wp2
          go_ret
          exact ⟨rfl, HWt.out.trans hx11⟩
end Go.Proofs.Ytbkefojepelggaa
