/- What is proved: spec.WithoutPoint returns a space without a point, in new memory; none for others. No condition. -/
import Derived.Test.YtbkefojepelggaaWo
namespace Go.Proofs.Ytbkefojepelggaa
open Go.RowKit
set_option maxRecDepth 100000 in
set_option maxHeartbeats 4000000 in
theorem sWithoutPoint_any (A : Option Addr) (cp : Nat) (D : List (List Int)) (p : Int) (w : World) (h : Mat w A cp D) :
    Calls Try.prog 72 #[.slice A D.length cp, .int .i64 p] w (TupR w (woB D p) (woOk D p)) := by
  have hcm := h.2.1
  have hlc := h.1
  unfold maxLen at hcm
  have HM := Lib.hid h
  have HC := Lib.hid (fun W (q : Mat W A cp D) => SpaceOk_any A cp D W q)
  have HD := Lib.hid (show woB D p = if woOk D p = true then woV D p.toNat else [] from rfl)
  have HO := Lib.hid (show woOk D p = ((spB D && decide (0 ≤ p ∧ p < D.length)) && decide (2 ≤ D.length)) from rfl)
  cases hs : spB D with
  | false =>
    have HK := Lib.hid (show woOk D p = false by rw [HO.out, hs]; rfl)
    have HF := Lib.hid (show woB D p = [] by rw [HD.out, HK.out]; rfl)
    rw [hs] at HC
    clear hs h
    go_enter Try.func72, Try.ntmps72
    go_wp2_with fail
    refine (HC.out _ (HM.out.ext (by repeat (first | exact Ext.refl _ | assumption | apply Ext.drewN' | apply Ext.alloc' | refine Ext.trans ?_ (by assumption))))).mono ?_
    rintro e w1 ⟨rfl, m1, rfl⟩
    go_wp2
    go_ret2
    rw [HF.out, HK.out]
    exact ⟨_, rfl, (AccR.empty (Ext.refl _)).on (by repeat (first | exact Ext.refl _ | assumption | apply Ext.drewN' | apply Ext.alloc' | refine Ext.trans ?_ (by assumption)))⟩
  | true =>
  by_cases h2 : 2 ≤ D.length
  rotate_left
  · have h2' : (D.length : Int) < 2 := by omega
    have HK := Lib.hid (show woOk D p = false by rw [HO.out, decide_eq_false h2, Bool.and_false])
    have HF := Lib.hid (show woB D p = [] by rw [HD.out, HK.out]; rfl)
    rw [hs] at HC
    clear hs h
    go_enter Try.func72, Try.ntmps72
    go_wp2_with fail
    refine (HC.out _ (HM.out.ext (by repeat (first | exact Ext.refl _ | assumption | apply Ext.drewN' | apply Ext.alloc' | refine Ext.trans ?_ (by assumption))))).mono ?_
    rintro e w1 ⟨rfl, m1, rfl⟩
    go_wp2
    go_ret2
    rw [HF.out, HK.out]
    exact ⟨_, rfl, (AccR.empty (Ext.refl _)).on (by repeat (first | exact Ext.refl _ | assumption | apply Ext.drewN' | apply Ext.alloc' | refine Ext.trans ?_ (by assumption)))⟩
  have h2' : ¬ (D.length : Int) < 2 := by omega
  have HL1 := Lib.hid (fun W => l1In_any p 0 ((D.length : Int) - 1) W)
  by_cases hp : 0 ≤ p ∧ p < D.length
  rotate_left
  · have HK := Lib.hid (show woOk D p = false by rw [HO.out, decide_eq_false hp, Bool.and_false, Bool.false_and])
    have HF := Lib.hid (show woB D p = [] by rw [HD.out, HK.out]; rfl)
    rw [hs] at HC
    rw [show inB p 0 ((D.length : Int) - 1) = false from decide_eq_false (by omega)] at HL1
    clear hs h hp
    go_enter Try.func72, Try.ntmps72
    go_wp2_with fail
    refine (HC.out _ (HM.out.ext (by repeat (first | exact Ext.refl _ | assumption | apply Ext.drewN' | apply Ext.alloc' | refine Ext.trans ?_ (by assumption))))).mono ?_
    rintro e w1 ⟨rfl, m1, rfl⟩
    go_wp2_with fail
    refine (HL1.out _).mono ?_
    rintro e w2 ⟨rfl, rfl⟩
    go_wp2
    go_ret2
    rw [HF.out, HK.out]
    exact ⟨_, rfl, (AccR.empty (Ext.refl _)).on (by repeat (first | exact Ext.refl _ | assumption | apply Ext.drewN' | apply Ext.alloc' | refine Ext.trans ?_ (by assumption)))⟩
  · have HK := Lib.hid (show woOk D p = true by rw [HO.out, decide_eq_true h2, decide_eq_true hp, hs]; rfl)
    have HF := Lib.hid (show woB D p = woV D p.toNat by rw [HD.out, HK.out]; rfl)
    rw [show inB p 0 ((D.length : Int) - 1) = true from decide_eq_true (by omega)] at HL1
    obtain ⟨p0, p1⟩ := hp
    rw [hs] at HC
    obtain ⟨q, rfl⟩ : ∃ q : Nat, p = (q : Int) := ⟨p.toNat, by omega⟩
    rw [show ((q : Int)).toNat = q by omega] at HF
    obtain ⟨⟨hn1, hn6⟩, hsq, -⟩ := farB_parts (spB_far hs)
    obtain ⟨bk, o, rc, rb, ro, hA, hrow, hlen, hcell, hints⟩ := h.square hsq
    obtain rfl := hA (by omega)
    have HROW := Lib.hid hrow
    have HCE := Lib.hid hcell
    have HST := Lib.hid (fun i (hi : i < D.length) => woK_step (p := q) hi)
    have HAL := Lib.hid (woK_all D q)
    have HZ := Lib.hid (woK_zero D q)
    have HBD := Lib.hid (woK_len D q)
    have HTX := Lib.hid (fun i j (hi : i < D.length) (hj : j < D.length) => erase_ix (xs := row D i) (p := q) (j := j) (by rw [hsq i hi]; exact hj))
    have HTF := Lib.hid (fun i (hi : i < D.length) => show (row D i).take D.length = row D i from List.take_of_length_le (by rw [hsq i hi]; exact Nat.le_refl _))
    have HXB := Lib.hid (fun (r : List Int) j (hj : j ≤ D.length) => show ((r.take j).eraseIdx q).length ≤ 6 from Nat.le_trans (List.length_eraseIdx_le _ _) (by rw [List.length_take]; omega))
    obtain ⟨n, hn⟩ : ∃ n, D.length = n := ⟨_, rfl⟩
    rw [hn] at HC HL1 HROW HCE HST HAL hlc hn1 hn6 p1 h2' HTX HTF HXB
    rw [hn]
    clear hs h hsq hrow hlen hcell hints hn h2 HD HO p0
    have hq : q < n := by omega
    go_enter Try.func72, Try.ntmps72
    go_wp2_with fail
    refine (HC.out _ (HM.out.ext (by repeat (first | exact Ext.refl _ | assumption | apply Ext.drewN' | apply Ext.alloc' | refine Ext.trans ?_ (by assumption))))).mono ?_
    rintro e w1 ⟨rfl, m1, rfl⟩
    go_wp2_with fail
    refine (HL1.out _).mono ?_
    rintro e w2 ⟨rfl, rfl⟩
    go_wp2
    go_loopg [7, 6] n (fun g s7 s6 wr => ∃ (k : Nat), k + g = n ∧ s7 = .int .i64 k ∧ Hid (AccR w wr s6 (woK D q k)))
    case atStart => exact ⟨0, by omega, rfl, Lib.hid (by rw [HZ.out]; exact (AccR.empty (Ext.refl _)).on (by repeat (first | exact Ext.refl _ | assumption | apply Ext.drewN' | apply Ext.alloc' | refine Ext.trans ?_ (by assumption))))⟩
    case round =>
      obtain ⟨k, hk, rfl, HR⟩ := hrel
      have hxr := HR.out.x
      by_cases hin : k < n
      · obtain ⟨g', rfl⟩ : ∃ g', gk = g' + 1 := ⟨gk - 1, by omega⟩
        have hin' : (k : Int) < (n : Nat) := by omega
        have HSTk := Lib.hid (HST.out k hin)
        have hbd := HBD.out k
        obtain ⟨acc, hacc⟩ : ∃ r, woK D q k = r := ⟨_, rfl⟩
        rw [hacc] at HSTk hbd HR
        clear hacc
        by_cases hkq : k = q
        · have hkq' : ((k : Int) == (q : Int)) = true := by simp; omega
          have HN := Lib.hid (show woK D q (k + 1) = acc by rw [HSTk.out, if_pos hkq])
          clear hkq
          go_wp2
          go_roundg g'
          case measure => omega
          case rel => exact ⟨k + 1, by omega, by go_num, Lib.hid (by rw [HN.out]; exact HR.out)⟩
        · have hkq' : ((k : Int) == (q : Int)) = false := by simp; omega
          have HN := Lib.hid (show woK D q (k + 1) = acc ++ [(row D k).eraseIdx q] by rw [HSTk.out, if_neg hkq])
          have HROWk := Lib.hid (HROW.out k hin)
          have HCEk := Lib.hid (fun j hj => HCE.out k hin j hj)
          have HTXk := Lib.hid (fun j hj => HTX.out k j hin hj)
          have HTFk := Lib.hid (HTF.out k hin)
          have HXBk := Lib.hid (HXB.out (row D k))
          have HAT := Lib.hid (fun j => show at2 D k j = ix (row D k) j from rfl)
          obtain ⟨r, hr⟩ : ∃ r, row D k = r := ⟨_, rfl⟩
          rw [hr] at HN HTXk HTFk HXBk HAT
          obtain ⟨wq, hwq⟩ : ∃ wq : World, wq = wr := ⟨_, rfl⟩
          subst hwq
          have HXI := Lib.hid hxr
          clear hkq hr
          go_wp2
          go_loopg [9, 8] n (fun g s9 s8 wx => ∃ (j : Nat), j + g = n ∧ s9 = .int .i64 j ∧ Hid (Acc wq wx 3 s8 (((r.take j).eraseIdx q).map (Value.int .i64))))
          case atStart => exact ⟨0, by omega, rfl, Lib.hid (by rw [List.take_zero, List.eraseIdx_nil]; exact Acc.empty _ (Ext.refl _))⟩
          case round =>
            obtain ⟨j, hj, rfl, HK2⟩ := hrel
            have hxk := HK2.out.x
            by_cases hinj : j < n
            · obtain ⟨gj1, rfl⟩ : ∃ g', gk = g' + 1 := ⟨gk - 1, by omega⟩
              have hinj' : (j : Int) < (n : Nat) := by omega
              have c1 := (HXI.out.trans hxk).cell HROWk.out
              have c2 := (HXI.out.trans hxk).cell (HCEk.out j hinj)
              rw [HAT.out] at c2
              have HTj := Lib.hid (HTXk.out j hinj)
              have hb6 := HXBk.out j (by omega)
              obtain ⟨X, hX⟩ : ∃ X, ix r j = X := ⟨_, rfl⟩
              rw [hX] at c2 HTj
              obtain ⟨ys, hys⟩ : ∃ ys, (r.take j).eraseIdx q = ys := ⟨_, rfl⟩
              rw [hys] at HK2 HTj hb6
              clear hX hys
              by_cases hjq : j = q
              · have hjq' : ((j : Int) != (q : Int)) = false := by simp; omega
                have HN2 := Lib.hid (show (r.take (j + 1)).eraseIdx q = ys by rw [HTj.out, if_pos hjq])
                clear hjq
                go_wp2
                go_roundg gj1
                case measure => omega
                case rel => exact ⟨j + 1, by omega, by go_num, Lib.hid (by rw [HN2.out]; exact HK2.out)⟩
              · have hjq' : ((j : Int) != (q : Int)) = true := by simp; omega
                have HN2 := Lib.hid (show (r.take (j + 1)).eraseIdx q = ys ++ [X] by rw [HTj.out, if_neg hjq])
                clear hjq
                go_wp2_with (at_builtin; refine wpList_ex rfl _ _ rfl _ (.slice (some ⟨_, 0, none⟩) 1 1) rfl rfl (app_run (w0 := wq) Try.underlying31 infoI rfl (by decide) _ (ys.map (Value.int .i64)) ⟨_, 0, none⟩ 1 1 [.int .i64 X] rfl (one_news (cell_new0 _ _ _) rfl) (map_one [X]) (HK2.out.on (Ext.alloc _ _)) (by simp; omega)) ?_; rintro v2 W2 ⟨hA2, hB2, hS2⟩)
                go_roundg gj1
                case measure => omega
                case rel => exact ⟨j + 1, by omega, by go_num, Lib.hid (by rw [HN2.out, List.map_append]; exact hA2)⟩
            · have hinj' : ¬ (j : Int) < (n : Nat) := by omega
              obtain rfl : gk = 0 := by omega
              obtain rfl : j = n := by omega
              rw [HTFk.out] at HK2
              obtain ⟨Ar, cr, hv2, -⟩ := (Leaf.of_own HK2.out.2).1.ints
              obtain ⟨K, hK⟩ : ∃ K, (r.eraseIdx q).length = K := ⟨_, rfl⟩
              rw [hK] at hv2
              subst hv2
              clear hK
              go_wp2_with (at_builtin; refine wpList_ex rfl _ _ rfl _ (.slice (some ⟨_, 0, none⟩) 1 1) rfl rfl (accR_run (u := .slice Ar K cr) rfl Try.underlying23 infoR ⟨_, 0, none⟩ 1 rfl HR.out HK2.out (Ext.alloc _ _) (cell_new0 _ _ _) (by omega)) ?_; rintro v3 W3 hR3)
              go_roundg g'
              case measure => omega
              case rel => exact ⟨k + 1, by omega, by go_num, Lib.hid (by rw [HN.out]; exact hR3)⟩
      · have hin' : ¬ (k : Int) < (n : Nat) := by omega
        obtain rfl : gk = 0 := by omega
        obtain rfl : k = n := by omega
        rw [HAL.out] at HR
        have HRR := Lib.hid HR.out
        clear HR
        go_wp2
        go_ret2
        rw [HF.out, HK.out]
        exact ⟨_, rfl, HRR.out⟩
end Go.Proofs.Ytbkefojepelggaa
