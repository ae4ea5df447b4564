/- What is proved: the call of the law FnMiddlesOf returns true and has turned nothing that was there. No condition. -/
import Derived.Test.YtpfbnaachibbfabDrFours
import Derived.Test.YtpfbnaachibbfabBtw
import Derived.Test.YtpfbnaachibbfabMid3
import Derived.Test.YtpfbnaachibbfabAlive
import Derived.Test.YtpfbnaachibbfabPl4
namespace Go.Proofs.Ytpfbnaachibbfab
open Go.RowKit
theorem btw_some {D : List (List Int)} {a b : Nat} (hs : spB D = true) (ha : a < D.length) : 0 < (selN (btwB D a b) D.length).length := by
  refine (selN_all (btwB D a b) D.length).2 ⟨a, ha, decide_eq_true ?_⟩
  rw [((farB_parts (spB_far hs)).2.2 a ha a ha).2.2.2.2 rfl]
  omega
theorem selN_only (a : Nat) : ∀ n : Nat, selN (fun x => decide (x = a)) n = if a < n then [(a : Int)] else []
  | 0 => by simp [selN, selG, itR]
  | n + 1 => by
    rw [selN_succ, selN_only a n]
    by_cases e : n = a
    · subst e; simp
    · by_cases h : a < n
      · simp [h, e]; omega
      · simp [h, e]; omega
theorem mids_twice {D : List (List Int)} {a b : Nat} (hs : spB D = true) (ha : a < D.length) (_hb : b < D.length) : midsL D a a b = [(a : Int)] := by
  have hc := (farB_parts (spB_far hs)).2.2
  unfold midsL
  rw [selN_congr (q := fun x => decide (x = a)) fun x hx => ?_, selN_only, if_pos ha]
  have h1 := hc a ha x hx
  have h2 := hc x hx a ha
  have h3 := hc a ha a ha
  have z := h3.2.2.2.2 rfl
  unfold midB btwB
  by_cases e : x = a
  · subst e
    rw [z]
    simp
  · rw [decide_eq_false (p := x = a) e, decide_eq_false (p := at2 D a x + at2 D x a = at2 D a a) (by
      have : at2 D a x ≠ 0 := fun q => e ((h1.2.2.2.1 q).symm)
      omega)]
    rfl
theorem mids_half {D : List (List Int)} {a b c x : Nat} (hs : spB D = true) (_ha : a < D.length) (hb : b < D.length) (hc : c < D.length) (hx : x < D.length) (h : midB D a b c x = true) :
    2 * (at2 D a x + at2 D b x + at2 D c x) = at2 D a b + at2 D b c + at2 D a c := by
  have hh := (farB_parts (spB_far hs)).2.2
  unfold midB btwB at h
  simp only [Bool.and_eq_true, decide_eq_true_eq] at h
  obtain ⟨h1, h2, h3⟩ := h
  have e1 := (hh x hx b hb).2.2.1
  have e2 := (hh x hx c hc).2.2.1
  omega
set_option maxRecDepth 100000 in
set_option maxHeartbeats 4000000 in
theorem FnMiddlesOf_walk (A : Option Addr) (n c : Nat) (w : World) (h : Byt w A n c) :
    Calls Try.prog 3 #[.slice A n c] w fun e w' => e = .returned (.bool true) ∧ Ext w w' := by
  by_cases hz : 1048576 < n
  · have hz' : (1048576 : Int) < (n : Nat) := by omega
    go_enter Try.func3, Try.ntmps3
    go_wp2
    go_ret
    exact ⟨rfl, (by repeat (first | exact Ext.refl _ | assumption | apply Ext.drewN' | apply Ext.alloc' | refine Ext.trans ?_ (by assumption)))⟩
  have hz' : ¬ (1048576 : Int) < (n : Nat) := by omega
  go_enter Try.func3, Try.ntmps3
  go_wp2_with fail
  refine (drawMiddlesOf_any A n c w h).mono ?_
  rintro e w1 ⟨A1, c1, D, p, q, r, rfl, hM, hD6, hx1⟩
  have HM := Lib.hid hM
  have hx : Ext w w1 := hx1
  clear hx1
  go_wp2_with fail
  refine (iMiddlesOf_any A1 c1 D p q r _ (HM.out.ext (by repeat (first | exact Ext.refl _ | assumption | apply Ext.drewN' | apply Ext.alloc' | refine Ext.trans ?_ (by assumption))))).mono ?_
  rintro e w2 ⟨v, rfl, hL, -, hx2⟩
  obtain ⟨A3, c3, rfl, hI3⟩ := hL.ints
  have HI3 := Lib.hid hI3
  clear hL
  go_wp2_with fail
  refine (sMiddles_any A1 c1 D p q r _ (HM.out.ext (by repeat (first | exact Ext.refl _ | assumption | apply Ext.drewN' | apply Ext.alloc' | refine Ext.trans ?_ (by assumption)))) (by omega)).mono ?_
  rintro e w3 ⟨v, rfl, hL, -, hx3⟩
  obtain ⟨A4, c4, rfl, hI4⟩ := hL.ints
  have HI4 := Lib.hid hI4
  have HE := Lib.hid (eqI_refl (midsV D p q r))
  clear hL hI4
  go_wp2_with fail
  refine (q_ext (sameInts_any A3 A4 c3 c4 (midsV D p q r) (midsV D p q r) _ (HI3.out.ext (by repeat (first | exact Ext.refl _ | assumption | apply Ext.drewN' | apply Ext.alloc' | refine Ext.trans ?_ (by assumption)))) (HI4.out.ext (by repeat (first | exact Ext.refl _ | assumption | apply Ext.drewN' | apply Ext.alloc' | refine Ext.trans ?_ (by assumption)))))).mono ?_
  rintro e w4 ⟨rfl, hx4⟩
  rw [HE.out]
  have HB1 := Lib.hid (fun W (k : Mat W A1 c1 D) => iBetweenOf_any A1 c1 D p q W k)
  have HB2 := Lib.hid (fun W (k : Mat W A1 c1 D) => iBetweenOf_any A1 c1 D p r W k)
  have HV1 := Lib.hid (show btwV D p q = if pointB D p = true ∧ pointB D q = true then selN (btwB D p.toNat q.toNat) D.length else [] from rfl)
  have HV2 := Lib.hid (show btwV D p r = if pointB D p = true ∧ pointB D r = true then selN (btwB D p.toNat r.toNat) D.length else [] from rfl)
  by_cases h1 : pointB D p = true ∧ pointB D q = true
  · by_cases h2 : pointB D p = true ∧ pointB D r = true
    · obtain ⟨hp, hq⟩ := h1
      obtain ⟨-, hr⟩ := h2
      have hmid : midsV D p q r = midsL D p.toNat q.toNat r.toNat := by
        unfold midsV
        rw [if_pos (by simp [ptsB, hp, hq, hr])]
      rw [HV1.out, if_pos ⟨hp, hq⟩] at HB1
      rw [HV2.out, if_pos ⟨hp, hr⟩] at HB2
      obtain ⟨hs, a, rfl, ha⟩ := pointB_parts hp
      obtain ⟨-, b, rfl, hb⟩ := pointB_parts hq
      obtain ⟨-, d, rfl, hd⟩ := pointB_parts hr
      simp only [Int.toNat_natCast] at HB1 HB2 hmid
      have l1 := btw_some (b := b) hs ha
      have l2 := btw_some (b := d) hs ha
      have HAA := Lib.hid (show midsV D (a : Int) (a : Int) (b : Int) = [(a : Int)] by
        unfold midsV
        rw [if_pos (by simp [ptsB, hp, hq])]
        simp only [Int.toNat_natCast]
        exact mids_twice hs ha hb)
      have HALL := Lib.hid (fun k (hk : k < (midsV D (a : Int) (b : Int) (d : Int)).length) => (show ∃ x : Nat, x < D.length ∧ ix (midsV D (a : Int) (b : Int) (d : Int)) k = (x : Int) ∧ 2 * (at2 D a x + at2 D b x + at2 D d x) = at2 D a b + at2 D b d + at2 D a d from by
        obtain ⟨x, hx, he, hpx⟩ := (selN_all (midB D a b d) D.length).1 (ix (midsV D (a : Int) (b : Int) (d : Int)) k) (by rw [ix_of hk]; rw [show selN (midB D a b d) D.length = midsV D (a : Int) (b : Int) (d : Int) from hmid.symm]; exact List.getElem_mem _)
        exact ⟨x, hx, he, mids_half hs ha hb hd hx hpx⟩))
      have H1 := Lib.hid hs
      obtain ⟨⟨hn1, hn6⟩, hsq, hcells⟩ := farB_parts (spB_far hs)
      obtain ⟨bk, o, rc, rb, ro, hA, hrow, hlen, hcell, -⟩ := (hM.ext ((hx2.trans hx3).trans hx4)).square hsq
      obtain rfl := hA (by omega)
      obtain ⟨e1, e2, b3, o3, hA3, hc3⟩ := hI3
      unfold maxLen at e2
      have HROW := Lib.hid hrow
      have HLEN := Lib.hid hlen
      have HCE := Lib.hid hcell
      have HBD := Lib.hid hcells
      have HC3 := Lib.hid hc3
      have HA3 := Lib.hid hA3
      have n1 : ((selN (btwB D a b) D.length).length == 0) = false := beq_eq_false_iff_ne.2 (by omega)
      clear hM hrow hlen hcell hcells hsq hA hp hq hr hs hmid hc3 hA3 HV1 HV2
      go_wp2_with fail
      refine (HB1.out _ (HM.out.ext ((hx2.trans hx3).trans hx4))).mono ?_
      rintro e w5 ⟨v, rfl, hL, -, hx5⟩
      obtain ⟨A5, c5, rfl, -⟩ := hL.ints
      clear hL
      have n1' : (((selN (btwB D a b) D.length).length : Int) == 0) = false := beq_eq_false_iff_ne.2 (by omega)
      have n2' : (((selN (btwB D a d) D.length).length : Int) == 0) = false := beq_eq_false_iff_ne.2 (by omega)
      go_wp2_with fail
      refine (HB2.out _ (HM.out.ext (((hx2.trans hx3).trans hx4).trans hx5))).mono ?_
      rintro e w6 ⟨v, rfl, hL, -, hx6⟩
      obtain ⟨A6, c6, rfl, -⟩ := hL.ints
      clear hL
      have ha' : (a : Int) < (D.length : Nat) := by omega
      have hb' : (b : Int) < (D.length : Nat) := by omega
      have hd' : (d : Int) < (D.length : Nat) := by omega
      have hx46 : Ext w4 w6 := hx5.trans hx6
      go_wp2
      clear n1' n2' l1 l2 n1
      go_loopg [8] ((midsV D (a : Int) (b : Int) (d : Int)).length) (fun g s8 wr => ∃ (k : Nat), k + g = (midsV D (a : Int) (b : Int) (d : Int)).length ∧ s8 = .int .i64 k ∧ Ext w6 wr ∧ Hid (True))
      case atStart => exact ⟨0, by omega, rfl, by repeat (first | exact Ext.refl _ | assumption | apply Ext.drewN' | apply Ext.alloc' | refine Ext.trans ?_ (by assumption)), Lib.hid (trivial)⟩
      case round =>
        obtain ⟨k, hk, rfl, hxk, Hk⟩ := hrel
        by_cases hink : k < (midsV D (a : Int) (b : Int) (d : Int)).length
        · obtain ⟨gk, rfl⟩ : ∃ g', gk = g' + 1 := ⟨gk - 1, by omega⟩
          have hink' : (k : Int) < ((midsV D (a : Int) (b : Int) (d : Int)).length : Nat) := by omega
          obtain ⟨x, hxl, hxe, hhalf⟩ := HALL.out k hink
          have hx4r : Ext w4 wr := hx46.trans hxk
          obtain rfl := HA3.out (by omega)
          have ck := ((hx3.trans hx4).trans hx4r).cell (HC3.out k hink)
          rw [hxe] at ck
          have hxl' : (x : Int) < (D.length : Nat) := by omega
          have r1 := hx4r.cell (HROW.out a ha)
          have r2 := hx4r.cell (HROW.out b hb)
          have r3 := hx4r.cell (HROW.out d hd)
          have k1 := hx4r.cell (HCE.out a ha x hxl)
          have k2 := hx4r.cell (HCE.out b hb x hxl)
          have k3 := hx4r.cell (HCE.out d hd x hxl)
          have k4 := hx4r.cell (HCE.out a ha b hb)
          have k5 := hx4r.cell (HCE.out b hb d hd)
          have k6 := hx4r.cell (HCE.out a ha d hd)
          obtain ⟨p1, q1, -, -⟩ := HBD.out a ha x hxl
          obtain ⟨p2, q2, -, -⟩ := HBD.out b hb x hxl
          obtain ⟨p3, q3, -, -⟩ := HBD.out d hd x hxl
          obtain ⟨p4, q4, -, -⟩ := HBD.out a ha b hb
          obtain ⟨p5, q5, -, -⟩ := HBD.out b hb d hd
          obtain ⟨p6, q6, -, -⟩ := HBD.out a ha d hd
          have hl1 := (HLEN.out a ha).1
          have hl2 := (HLEN.out b hb).1
          have hl3 := (HLEN.out d hd).1
          have hbne : (2 * (at2 D a x + at2 D b x + at2 D d x) != at2 D a b + at2 D b d + at2 D a d) = false := by rw [hhalf]; simp
          clear hxe hhalf
          go_wp2
          go_quiet (fail)
          go_wp2
          go_roundg gk
          case measure => omega
          case rel => exact ⟨k + 1, by omega, by go_num, by repeat (first | exact Ext.refl _ | assumption | apply Ext.drewN' | apply Ext.alloc' | refine Ext.trans ?_ (by assumption)), Lib.hid (by trivial)⟩
        · have hink' : ¬ (k : Int) < ((midsV D (a : Int) (b : Int) (d : Int)).length : Nat) := by omega
          obtain rfl : gk = 0 := by omega
          have HK := Lib.hid (fun W (q1 : Mat W (some ⟨bk, o, none⟩) c1 D) => iMiddlesOf_any (some ⟨bk, o, none⟩) c1 D (a : Int) (a : Int) (b : Int) W q1)
          rw [HAA.out] at HK
          have HEQ := Lib.hid (eqI_refl [(a : Int)])
          clear HALL HROW HLEN HCE HBD HC3 HA3
          go_wp2_with fail
          refine (HK.out _ (HM.out.ext ((((hx2.trans hx3).trans hx4).trans hx46).trans hxk))).mono ?_
          rintro e w7 ⟨v, rfl, hL, -, hx7⟩
          obtain ⟨A7, c7, rfl, hI7⟩ := hL.ints
          have HI7 := Lib.hid hI7
          have HS := Lib.hid (fun W (q1 : Ints W A7 c7 [(a : Int)]) (q2 : Ints W (some ⟨w7.heap.size, 0, none⟩) 1 [(a : Int)]) => sameInts_any A7 (some ⟨w7.heap.size, 0, none⟩) c7 1 [(a : Int)] [(a : Int)] W q1 q2)
          rw [HEQ.out] at HS
          have HN := Lib.hid (show Ints (w7.alloc (.cells #[.int .i64 (a : Int)] 3)) (some ⟨w7.heap.size, 0, none⟩) 1 [(a : Int)] from
            ⟨Nat.le_refl _, by unfold maxLen; decide, w7.heap.size, 0, fun _ => rfl, fun j hj => by
              have : j = 0 := by simp at hj; exact hj
              subst this
              rw [Nat.zero_add, cell_cells (heap_alloc_new w7 _)]; rfl⟩)
          clear hL hI7
          go_wp2_with fail
          refine (HS.out _ (HI7.out.ext (Ext.alloc _ _)) HN.out).mono ?_
          rintro e w8 ⟨rfl, m8, rfl⟩
          go_wp2
          go_ret
          exact ⟨rfl, ((((((hx.trans hx2).trans hx3).trans hx4).trans hx46).trans hxk).trans hx7).trans ((Ext.alloc _ _).drewN' _)⟩
    · have hmid : midsV D p q r = [] := by
        unfold midsV
        rw [if_neg]
        intro hh
        simp [ptsB] at hh
        exact h2 ⟨hh.1, hh.2.2⟩
      have l1 : 0 < (selN (btwB D p.toNat q.toNat) D.length).length := by
        obtain ⟨hs, a, rfl, ha⟩ := pointB_parts h1.1
        exact btw_some hs (by simpa using ha)
      rw [HV1.out, if_pos h1] at HB1
      rw [HV2.out, if_neg h2] at HB2
      rw [hmid]
      have n1' : (((selN (btwB D p.toNat q.toNat) D.length).length : Int) == 0) = false := beq_eq_false_iff_ne.2 (by omega)
      clear hM hI3 hmid h1 h2 HV1 HV2
      go_wp2_with fail
      refine (HB1.out _ (HM.out.ext ((hx2.trans hx3).trans hx4))).mono ?_
      rintro e w5 ⟨v, rfl, hL, -, hx5⟩
      obtain ⟨A5, c5, rfl, -⟩ := hL.ints
      clear hL
      go_wp2_with fail
      refine (HB2.out _ (HM.out.ext (((hx2.trans hx3).trans hx4).trans hx5))).mono ?_
      rintro e w6 ⟨v, rfl, hL, -, hx6⟩
      obtain ⟨A6, c6, rfl, -⟩ := hL.ints
      clear hL
      go_wp2_with fail
      refine (alive_any _).mono ?_
      rintro e w7 ⟨rfl, hx7⟩
      go_wp2
      go_ret
      exact ⟨rfl, (by repeat (first | exact Ext.refl _ | assumption | apply Ext.drewN' | apply Ext.alloc' | refine Ext.trans ?_ (by assumption)))⟩
  · have hmid : midsV D p q r = [] := by
      unfold midsV
      rw [if_neg]
      intro hh
      simp [ptsB] at hh
      exact h1 ⟨hh.1, hh.2.1⟩
    rw [HV1.out, if_neg h1] at HB1
    rw [hmid]
    clear hM hI3 hmid h1 HV1 HV2 HB2
    go_wp2_with fail
    refine (HB1.out _ (HM.out.ext ((hx2.trans hx3).trans hx4))).mono ?_
    rintro e w5 ⟨v, rfl, hL, -, hx5⟩
    obtain ⟨A5, c5, rfl, -⟩ := hL.ints
    clear hL
    go_wp2_with fail
    refine (alive_any _).mono ?_
    rintro e w7 ⟨rfl, hx7⟩
    go_wp2
    go_ret
    exact ⟨rfl, (by repeat (first | exact Ext.refl _ | assumption | apply Ext.drewN' | apply Ext.alloc' | refine Ext.trans ?_ (by assumption)))⟩
end Go.Proofs.Ytpfbnaachibbfab
