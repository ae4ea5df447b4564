/- What is proved: the walk of the law FnDeskLine (if l20Deed draws a deed). Conditions: those of the contract. -/
import Derived.Test.YtcejdgnfmcgopaaGreatDoorDrLn
import Derived.Test.YtcejdgnfmcgopaaGreatDoorPf
import Derived.Test.YtcejdgnfmcgopaaGreatDoorLawFnDeskDo
import Derived.Test.YtcejdgnfmcgopaaGreatDoorAlive
namespace Go.Proofs.YtcejdgnfmcgopaaGreatDoor
open Go.RowKit
theorem mats_nil (W : World) : MatS W none 0 [] := (OwnS.nil 0 W (fun _ => .slice none 0 0) (fun _ _ => .slice none 0 0)).mats_of.2
set_option maxHeartbeats 2000000 in
theorem noDesk_l (A B : Option Addr) (c d : Nat) (D : List (List Int)) (L : List (List (List Int))) (w : World) (h1 : Mat w A c D) (h2 : MatS w B d L) (b : Bool) (hb : b = true ↔ L = [] ∧ D = []) :
    Calls Tryz.prog 14 #[.agg #[.slice A D.length c, .slice B L.length d]] w fun e w' => e = .returned (.bool b) ∧ Ext w w' := by
  have HC := Lib.hid (fun W (q : Ext w W) => sameDesk_v A B c d D L none none 0 0 [] [] W (h1.ext q) (h2.ext q) (Mat.nil _ _ _ (Nat.zero_le _)) (mats_nil W) b hb)
  clear h1 h2 hb
  go_enter Tryz.func14, Tryz.ntmps14
  go_wp2_with fail
  refine (HC.out _ (by repeat (first | exact Ext.refl _ | apply Ext.alloc' | apply Ext.drew'))).mono ?_
  rintro e w1 ⟨rfl, hx⟩
  go_wp2
  go_ret
  exact ⟨rfl, by repeat (first | exact hx | refine Ext.trans ?_ hx | exact Ext.refl _ | apply Ext.alloc' | apply Ext.drew')⟩
theorem say_same {D : List (List Int)} {L : List (List (List Int))} {T : List UInt8} (h : sayT D L T ≠ [111, 107]) (hd : deskB D L = true) : lineD D L T = D ∧ lineL D L T = L := by
  unfold sayT lineT at h
  unfold lineD lineL
  rw [if_pos hd] at h ⊢
  rw [if_pos hd]
  cases hr : rdS T with
  | none => exact ⟨rfl, rfl⟩
  | some p =>
    rw [hr] at h
    have hb : doB D L p.1 p.2 = false := by
      cases hb : doB D L p.1 p.2 with
      | false => rfl
      | true => exact absurd (show lnT D L _ (some p) = [111, 107] from if_pos hb) h
    have hn : ¬ doB D L p.1 p.2 = true := by rw [hb]; simp
    show doD D L p.1 p.2 = D ∧ doL D L p.1 p.2 = L
    unfold doD doL
    by_cases q : p.1 = 4 ∧ p.2.length = 0
    · rw [if_pos q, if_pos q]
      have h1 : decide (0 < L.length) = false := by
        unfold doB at hb
        rw [if_pos q] at hb
        exact hb
      have h0 : L.length = 0 := by have := of_decide_eq_false h1; omega
      have hL : L = [] := List.eq_nil_of_length_eq_zero h0
      rw [if_neg (by omega), hL]
      exact ⟨rfl, rfl⟩
    · rw [if_neg q, if_neg q, if_neg hn, if_neg hn]
      exact ⟨rfl, rfl⟩
theorem say_empty {D : List (List Int)} {L : List (List (List Int))} (hd : deskB D L = true) : lineD D L [] = D ∧ lineL D L [] = L ∧ sayT D L [] = [119, 104, 97, 116] := by
  have hr : rdS [] = none := by decide +kernel
  unfold sayT lineT lineD lineL
  rw [if_pos hd, if_pos hd, if_pos hd, hr]
  refine ⟨rfl, rfl, ?_⟩
  show askV D [] = _
  unfold askV
  rw [if_neg (by decide), if_neg (by decide), if_neg (by decide), if_neg (by decide), if_neg (by decide), if_neg (by decide), if_neg (by decide)]
  unfold twoI
  rw [(cut_miss (c := 32) (p := []) (fun b hb => by cases hb)).2.2, if_neg (fun z => absurd z.1 (by simp))]
  rfl
theorem say_desk {D : List (List Int)} {L : List (List (List Int))} {T : List UInt8} (hd : deskB D L = true) : deskB (lineD D L T) (lineL D L T) = true := by
  unfold lineD lineL
  rw [if_pos hd, if_pos hd]
  exact ln_desk hd _
theorem say_bad {D : List (List Int)} {L : List (List (List Int))} {T : List UInt8} (hd : deskB D L = false) : lineD D L T = [] ∧ lineL D L T = [] ∧ sayT D L T = [] := by
  unfold sayT lineT lineD lineL
  rw [hd]
  exact ⟨rfl, rfl, rfl⟩
set_option maxRecDepth 100000 in
set_option maxHeartbeats 8000000 in
theorem FnDeskLine_walk (hDeed : DeedAny) (A : Option Addr) (n c : Nat) (w : World) (h : Byt w A n c) (hE : Env w) (ht : Tab w) :
    Calls Tryz.prog 7 #[.slice A n c] w fun e w' => e = .returned (.bool true) ∧ Ext w w' := by
  by_cases hz : 1048576 < n
  · have hz' : (1048576 : Int) < (n : Nat) := by omega
    go_enter Tryz.func7, Tryz.ntmps7
    go_wp2
    go_ret
    exact ⟨rfl, (by repeat (first | exact Ext.refl _ | assumption | apply Ext.drewN' | apply Ext.alloc' | refine Ext.trans ?_ (by assumption)))⟩
  have hz' : ¬ (1048576 : Int) < (n : Nat) := by omega
  have HDR := Lib.hid (drawDeskLine_any hDeed A n c w h)
  have HE := Lib.hid (fun W (q : Ext w W) => And.intro (hE.ext q) (ht.ext q))
  clear h hE ht
  go_enter Tryz.func7, Tryz.ntmps7
  go_wp2_with fail
  refine HDR.out.mono ?_
  rintro e w1 ⟨A1, c1, B1, d1, D, L, T, rfl, hM, hS, hT, hx1⟩
  have HM := Lib.hid hM
  have HS := Lib.hid hS
  have HX1 := Lib.hid hx1
  have htsz := tx_size T
  have HLI := Lib.hid (fun W (q : Ext w1 W) (U : List UInt8) (hU : U.length ≤ 1048576) => iDeskLine_say A1 B1 c1 d1 D L U W (hM.ext q) (hS.ext q) hU (HE.out W (hx1.trans q)).1 (HE.out W (hx1.trans q)).2)
  have HLI1 := fun W (q : Ext w1 W) => HLI.out W q T (by omega)
  have hLS := fun W (q : Ext w1 W) => sDeskLine_any A1 B1 c1 d1 D L T W (hM.ext q) (hS.ext q) (by omega)
  have HSO := Lib.hid (fun W (q : Ext w1 W) => sDeskOk_any A1 B1 c1 d1 D L W (hM.ext q) (hS.ext q))
  have HSAME := Lib.hid (fun (q : sayT D L T ≠ [111, 107]) (hd : deskB D L = true) => say_same q hd)
  have HBAD := Lib.hid (fun (hd : deskB D L = false) => say_bad (T := T) hd)
  have HDSK := Lib.hid (fun (hd : deskB D L = true) => say_desk (T := T) hd)
  obtain ⟨X, hX⟩ : ∃ x, lineD D L T = x := ⟨_, rfl⟩
  obtain ⟨Y, hY⟩ : ∃ x, lineL D L T = x := ⟨_, rfl⟩
  obtain ⟨TT, hTT⟩ : ∃ x, sayT D L T = x := ⟨_, rfl⟩
  rw [hX, hY, hTT] at HLI1 hLS HBAD
  rw [hX, hY, hTT] at HSAME
  rw [hX, hY] at HDSK
  have HI1 := Lib.hid HLI1
  have HS1 := Lib.hid hLS
  have hTTb : (TT == TT) = true := beq_self_eq_true TT
  clear hM hS hx1 HLI1 hLS hX hY hTT HDR
  unfold tx
  obtain ⟨w2, hw2⟩ : ∃ W, w1.alloc (.cells #[.slice A1 D.length c1, .slice B1 L.length d1] 26) = W := ⟨_, rfl⟩
  have hx2 : Ext w1 w2 := by rw [← hw2]; exact Ext.alloc _ _
  have hb2 := heap_alloc_new w1 (.cells #[.slice A1 D.length c1, .slice B1 L.length d1] 26)
  rw [hw2] at hb2
  have HC := Lib.hid (fun W (q : Ext w2 W) => two_cells ((q.block (heap_lt hb2)).trans hb2))
  obtain ⟨p0, p1⟩ := HC.out w2 (Ext.refl _)
  clear hb2
  go_wp2_with fail
  refine (HI1.out _ hx2).mono ?_
  rintro e w3 ⟨v3, rfl, hO3, hx3⟩
  obtain ⟨A3, c3, B3, d3, rfl, hM3, hS3, -, -⟩ := hO3.split
  have HM3 := Lib.hid hM3
  have HS3 := Lib.hid hS3
  unfold tx
  obtain ⟨w4, hw4⟩ : ∃ W, w3.alloc (.cells #[.slice A3 X.length c3, .slice B3 Y.length d3] 26) = W := ⟨_, rfl⟩
  have hx34 : Ext w3 w4 := by rw [← hw4]; exact Ext.alloc _ _
  have hb4 := heap_alloc_new w3 (.cells #[.slice A3 X.length c3, .slice B3 Y.length d3] 26)
  rw [hw4] at hb4
  have HC4 := Lib.hid (fun W (q : Ext w4 W) => two_cells ((q.block (heap_lt hb4)).trans hb4))
  have hx24 : Ext w2 w4 := hx3.trans hx34
  clear p0 p1 hO3 hM3 hS3 hb4
  obtain ⟨p0, p1⟩ := HC.out w4 hx24
  go_wp2_with fail
  refine (HS1.out _ (hx2.trans hx24)).mono ?_
  rintro e w5 ⟨A5, c5, B5, d5, rfl, hF5, hx5⟩
  have HM5 := Lib.hid hF5.now.1
  have HS5 := Lib.hid hF5.now.2
  unfold tx
  obtain ⟨w6, hw6⟩ : ∃ W, w5.alloc (.cells #[.slice A5 X.length c5, .slice B5 Y.length d5] 26) = W := ⟨_, rfl⟩
  have hx56 : Ext w5 w6 := by rw [← hw6]; exact Ext.alloc _ _
  have hb6 := heap_alloc_new w5 (.cells #[.slice A5 X.length c5, .slice B5 Y.length d5] 26)
  rw [hw6] at hb6
  obtain ⟨s0, s1⟩ := two_cells hb6
  have hx46 : Ext w4 w6 := hx5.trans hx56
  clear p0 p1 hF5 hb6
  obtain ⟨r0, r1⟩ := HC4.out w6 hx46
  have HA6 := Lib.hid (sameDesk_v A3 B3 c3 d3 X Y A5 B5 c5 d5 X Y w6 (HM3.out.ext (hx34.trans hx46)) (HS3.out.ext (hx34.trans hx46)) (HM5.out.ext hx56) (HS5.out.ext hx56) true (by simp))
  go_wp2_with fail
  refine HA6.out.mono ?_
  rintro e w7 ⟨rfl, hx7⟩
  have hx47 : Ext w4 w7 := hx46.trans hx7
  clear s0 s1 r0 r1
  obtain ⟨p0, p1⟩ := HC.out w7 (hx24.trans hx47)
  have hx17 : Ext w1 w7 := hx2.trans (hx24.trans hx47)
  have HX17 := Lib.hid hx17
  have HX27 := Lib.hid (hx24.trans hx47)
  have HX47 := Lib.hid hx47
  have HX37 := Lib.hid (hx34.trans hx47)
  have HW := Lib.hid (HX1.out.trans hx17)
  have HSO7 := Lib.hid (HSO.out w7 hx17)
  cases hd : deskB D L with
  | false =>
    obtain ⟨rfl, rfl, rfl⟩ := HBAD.out hd
    rw [hd] at HSO7
    clear hd hTTb
    go_wp2_with fail
    refine HSO7.out.mono ?_
    rintro e w8 ⟨rfl, hx8⟩
    clear p0 p1
    obtain ⟨r0, r1⟩ := HC4.out w8 (HX47.out.trans hx8)
    have HND := Lib.hid (noDesk_l A3 B3 c3 d3 [] [] w8 (HM3.out.ext (HX37.out.trans hx8)) (HS3.out.ext (HX37.out.trans hx8)) true (by simp))
    go_wp2_with fail
    refine HND.out.mono ?_
    rintro e w9 ⟨rfl, hx9⟩
    go_wp2_with fail
    refine (alive_any _).mono ?_
    rintro e w10 ⟨rfl, hx10⟩
    go_wp2_with fail
    go_ret
    exact ⟨rfl, ((HW.out.trans hx8).trans hx9).trans hx10⟩
  | true =>
    have HOK := Lib.hid (HDSK.out hd)
    have HSM := Lib.hid (fun q => HSAME.out q hd)
    obtain ⟨e1, e2, e3⟩ := say_empty hd
    have hz1 := fun W (q : Ext w1 W) => HLI.out W q [] (by simp)
    rw [e1, e2, e3] at hz1
    have HZ1 := Lib.hid hz1
    rw [hd] at HSO7
    clear hd hz1 e1 e2 e3 HBAD HDSK HSAME HLI
    go_wp2_with fail
    refine HSO7.out.mono ?_
    rintro e w8 ⟨rfl, hx8⟩
    clear p0 p1
    obtain ⟨p0, p1⟩ := HC.out w8 (HX27.out.trans hx8)
    go_wp2_with fail
    refine (HZ1.out _ (HX17.out.trans hx8)).mono ?_
    rintro e w9 ⟨v9, rfl, hO9, hx9⟩
    obtain ⟨A9, c9, B9, d9, rfl, hM9, hS9, -, -⟩ := hO9.split
    unfold tx
    obtain ⟨w10, hw10⟩ : ∃ W, w9.alloc (.cells #[.slice A9 D.length c9, .slice B9 L.length d9] 26) = W := ⟨_, rfl⟩
    have hx90 : Ext w9 w10 := by rw [← hw10]; exact Ext.alloc _ _
    have hb10 := heap_alloc_new w9 (.cells #[.slice A9 D.length c9, .slice B9 L.length d9] 26)
    rw [hw10] at hb10
    have HC10 := Lib.hid (fun W (q : Ext w10 W) => two_cells ((q.block (heap_lt hb10)).trans hb10))
    have HM10 := Lib.hid (fun W (q : Ext w10 W) => And.intro (hM9.ext (hx90.trans q)) (hS9.ext (hx90.trans q)))
    have hx810 : Ext w8 w10 := hx9.trans hx90
    have HX710 := Lib.hid (hx8.trans hx810)
    obtain ⟨r0, r1⟩ := HC4.out w10 (HX47.out.trans HX710.out)
    have HAO := Lib.hid (iDeskOk_any A3 B3 c3 d3 X Y w10 (HM3.out.ext (HX37.out.trans HX710.out)) (HS3.out.ext (HX37.out.trans HX710.out)))
    rw [HOK.out] at HAO
    have HSZ := Lib.hid (fun W (q : Ext w10 W) => sameDesk_v A9 B9 c9 d9 D L A1 B1 c1 d1 D L W (HM10.out W q).1 (HM10.out W q).2 (HM.out.ext (HX17.out.trans (HX710.out.trans q))) (HS.out.ext (HX17.out.trans (HX710.out.trans q))) true (by simp))
    have HWF := Lib.hid (HW.out.trans HX710.out)
    clear hO9 hM9 hS9 hb10 hx9 hx90 hx810 hx8 p0 p1
    by_cases hok : TT = [111, 107]
    · subst hok
      go_wp2_with fail
      refine HAO.out.mono ?_
      rintro e wa ⟨rfl, hxa⟩
      clear r0 r1
      obtain ⟨p0, p1⟩ := HC.out wa (HX27.out.trans (HX710.out.trans hxa))
      obtain ⟨u0, u1⟩ := HC10.out wa hxa
      go_wp2_with fail
      refine (HSZ.out wa hxa).mono ?_
      rintro e wb ⟨rfl, hxb⟩
      go_wp2_with fail
      go_ret
      exact ⟨rfl, HWF.out.trans (hxa.trans hxb)⟩
    · obtain ⟨rfl, rfl⟩ := HSM.out hok
      have hokb : (TT == [111, 107]) = false := beq_eq_false_iff_ne.2 hok
      have HSY := Lib.hid (fun W (q : Ext w10 W) => sameDesk_v A3 B3 c3 d3 X Y A1 B1 c1 d1 X Y W (HM3.out.ext (HX37.out.trans (HX710.out.trans q))) (HS3.out.ext (HX37.out.trans (HX710.out.trans q))) (HM.out.ext (HX17.out.trans (HX710.out.trans q))) (HS.out.ext (HX17.out.trans (HX710.out.trans q))) true (by simp))
      clear hok
      go_wp2_with fail
      refine HAO.out.mono ?_
      rintro e wa ⟨rfl, hxa⟩
      clear r0 r1
      obtain ⟨r0, r1⟩ := HC4.out wa (HX47.out.trans (HX710.out.trans hxa))
      obtain ⟨p0, p1⟩ := HC.out wa (HX27.out.trans (HX710.out.trans hxa))
      go_wp2_with fail
      refine (HSY.out wa hxa).mono ?_
      rintro e wb ⟨rfl, hxb⟩
      clear r0 r1 p0 p1
      obtain ⟨p0, p1⟩ := HC.out wb (HX27.out.trans (HX710.out.trans (hxa.trans hxb)))
      obtain ⟨u0, u1⟩ := HC10.out wb (hxa.trans hxb)
      go_wp2_with fail
      refine (HSZ.out wb (hxa.trans hxb)).mono ?_
      rintro e wd ⟨rfl, hxd⟩
      go_wp2_with fail
      go_ret
      exact ⟨rfl, HWF.out.trans (hxa.trans (hxb.trans hxd))⟩
end Go.Proofs.YtcejdgnfmcgopaaGreatDoor
