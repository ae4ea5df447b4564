/- What is proved: DividedAt and RestAt of both answer alike. No condition but the rows' size. -/
import Derived.Test.YtimelegkgaimjaaDiv
namespace Go.Proofs.Ytimelegkgaimjaa
open Go.RowKit

def divV (D : List (List Int)) (p q : Int) : Int := if pointB D p = true ∧ pointB D q = true then divL (splD D) p.toNat q.toNat else -1
def restV (D : List (List Int)) (p q : Int) : Int := if pointB D p = true ∧ pointB D q = true then 2 * at2 D p.toNat q.toNat - divL (splD D) p.toNat q.toNat else -1
theorem ptsB_two (D : List (List Int)) (p q : Int) : ptsB D [p, q] = (pointB D p && pointB D q) := by
  unfold ptsB; simp only [List.all_cons, List.all_nil, Bool.and_true]
theorem ptsB_two_no {D : List (List Int)} {p q : Int} (h : ptsB D [p, q] = false) : ¬ (pointB D p = true ∧ pointB D q = true) := by
  rintro ⟨h1, h2⟩; rw [ptsB_two, h1, h2] at h; cases h
theorem ints_two (w : World) (a b : Int) : Ints (w.alloc (.cells #[.int .i64 a, .int .i64 b] 3)) (some ⟨w.heap.size, 0, none⟩) 2 [a, b] := leafI (xs := [a, b]) (leaf_two w a b)
theorem hpt_of {D : List (List Int)} (hs : spB D = true) (x : Int) : inB x 0 (D.length - 1) = pointB D x := by
  unfold inB pointB
  rw [hs, Bool.true_and]
  exact b_dd (by omega)
theorem pointB_no {D : List (List Int)} (hs : spB D = false) (x : Int) : pointB D x = false := by unfold pointB; rw [hs]; rfl

set_option maxRecDepth 100000 in
set_option maxHeartbeats 2000000 in
theorem iDividedAt_any (A : Option Addr) (cp : Nat) (D : List (List Int)) (p q : Int) (w : World) (h : Mat w A cp D) :
    Calls Try.prog 29 #[.slice A D.length cp, .int .i64 p, .int .i64 q] w fun e w' => e = .returned (.int .i64 (divV D p q)) ∧ Ext w w' := by
  have HP := Lib.hid (fun W (k : Mat W A cp D) (k2 : Ints W (some ⟨w.heap.size, 0, none⟩) 2 [p, q]) => arePoints_any A cp D (some ⟨w.heap.size, 0, none⟩) 2 [p, q] W k k2)
  have HI := Lib.hid (ints_two w p q)
  have HM := Lib.hid h
  cases e : ptsB D [p, q] with
  | false =>
    have HF := Lib.hid (show divV D p q = -1 from if_neg (ptsB_two_no e))
    rw [e] at HP
    clear e
    go_enter Try.func29, Try.ntmps29
    go_wp2_with fail
    refine (HP.out _ (HM.out.ext (Ext.alloc _ _)) HI.out).mono ?_
    rintro e w1 ⟨rfl, hx1⟩
    go_wp2
    go_ret
    exact ⟨ret_int HF.out.symm, (by repeat (first | exact Ext.refl _ | assumption | apply Ext.drewN' | apply Ext.alloc' | refine Ext.trans ?_ (by assumption)))⟩
  | true =>
    have e2 := e
    rw [ptsB_two, Bool.and_eq_true] at e2
    obtain ⟨e3, e4⟩ := e2
    have hf : divV D p q = divL (splD D) p.toNat q.toNat := if_pos ⟨e3, e4⟩
    obtain ⟨hs, a, rfl, ha⟩ := pointB_parts e3
    obtain ⟨-, b, rfl, hb⟩ := pointB_parts e4
    have HF := Lib.hid (show divV D a b = divL (splD D) a b from hf)
    rw [e] at HP
    have HC := Lib.hid (fun W (k : Mat W A cp D) => dividedAt_any A cp D a b W k hs ha hb)
    clear e e3 e4 hs hf
    go_enter Try.func29, Try.ntmps29
    go_wp2_with fail
    refine (HP.out _ (HM.out.ext (Ext.alloc _ _)) HI.out).mono ?_
    rintro e w1 ⟨rfl, hx1⟩
    go_wp2_with fail
    refine (HC.out _ (HM.out.ext (by repeat (first | exact Ext.refl _ | assumption | apply Ext.drewN' | apply Ext.alloc' | refine Ext.trans ?_ (by assumption))))).mono ?_
    rintro e w2 ⟨rfl, hx2⟩
    go_wp2
    go_ret
    exact ⟨ret_int HF.out.symm, (by repeat (first | exact Ext.refl _ | assumption | apply Ext.drewN' | apply Ext.alloc' | refine Ext.trans ?_ (by assumption)))⟩

set_option maxRecDepth 100000 in
set_option maxHeartbeats 2000000 in
theorem sDividedAt_any (A : Option Addr) (cp : Nat) (D : List (List Int)) (p q : Int) (w : World) (h : Mat w A cp D) :
    Calls Try.prog 30 #[.slice A D.length cp, .int .i64 p, .int .i64 q] w fun e w' => e = .returned (.int .i64 (divV D p q)) ∧ Ext w w' := by
  have hcm := h.2.1
  have hlc := h.1
  unfold maxLen at hcm
  have HC := Lib.hid (fun W (k : Mat W A cp D) => SpaceOk_any A cp D W k)
  have HM := Lib.hid h
  cases hs : spB D with
  | false =>
    have HF := Lib.hid (show divV D p q = -1 from if_neg (fun k => absurd (k.1.symm.trans (pointB_no hs p)) (by decide)))
    rw [hs] at HC
    clear hs
    go_enter Try.func30, Try.ntmps30
    go_wp2_with fail
    refine (HC.out _ (HM.out.ext (by repeat (first | exact Ext.refl _ | assumption | apply Ext.drewN' | apply Ext.alloc' | refine Ext.trans ?_ (by assumption))))).mono ?_
    rintro e w1 ⟨rfl, m1, rfl⟩
    go_wp2
    go_ret
    exact ⟨ret_int HF.out.symm, (by repeat (first | exact Ext.refl _ | assumption | apply Ext.drewN' | apply Ext.alloc' | refine Ext.trans ?_ (by assumption)))⟩
  | true =>
    have hpt := hpt_of hs
    cases ea : inB p 0 (D.length - 1) with
    | false =>
      have HF := Lib.hid (show divV D p q = -1 from if_neg (fun k => absurd (k.1.symm.trans ((hpt p).symm.trans ea)) (by decide)))
      rw [hs] at HC
      clear hs hpt
      go_enter Try.func30, Try.ntmps30
      go_wp2_with fail
      refine (HC.out _ (HM.out.ext (by repeat (first | exact Ext.refl _ | assumption | apply Ext.drewN' | apply Ext.alloc' | refine Ext.trans ?_ (by assumption))))).mono ?_
      rintro e w1 ⟨rfl, m1, rfl⟩
      go_wp2_with fail
      refine (l1In_any _ _ _ _).mono ?_
      rintro e w2 ⟨rfl, rfl⟩
      go_wp2
      go_ret
      exact ⟨ret_int HF.out.symm, (by repeat (first | exact Ext.refl _ | assumption | apply Ext.drewN' | apply Ext.alloc' | refine Ext.trans ?_ (by assumption)))⟩
    | true =>
    cases eb : inB q 0 (D.length - 1) with
    | false =>
      have HF := Lib.hid (show divV D p q = -1 from if_neg (fun k => absurd (k.2.symm.trans ((hpt q).symm.trans eb)) (by decide)))
      rw [hs] at HC
      clear hs hpt
      go_enter Try.func30, Try.ntmps30
      go_wp2_with fail
      refine (HC.out _ (HM.out.ext (by repeat (first | exact Ext.refl _ | assumption | apply Ext.drewN' | apply Ext.alloc' | refine Ext.trans ?_ (by assumption))))).mono ?_
      rintro e w1 ⟨rfl, m1, rfl⟩
      go_wp2_with fail
      refine (l1In_any _ _ _ _).mono ?_
      rintro e w2 ⟨rfl, rfl⟩
      go_wp2_with fail
      refine (l1In_any _ _ _ _).mono ?_
      rintro e w3 ⟨rfl, rfl⟩
      go_wp2
      go_ret
      exact ⟨ret_int HF.out.symm, (by repeat (first | exact Ext.refl _ | assumption | apply Ext.drewN' | apply Ext.alloc' | refine Ext.trans ?_ (by assumption)))⟩
    | true =>
      have pa := hpt p
      have pb := hpt q
      rw [ea] at pa
      rw [eb] at pb
      have hf : divV D p q = divL (splD D) p.toNat q.toNat := if_pos ⟨pa.symm, pb.symm⟩
      obtain ⟨-, a, rfl, ha⟩ := pointB_parts pa.symm
      obtain ⟨-, b, rfl, hb⟩ := pointB_parts pb.symm
      have HF := Lib.hid (show divV D a b = divL (splD D) a b from hf)
      have hn6 := (spB_len hs).2
      have hvd : splV D = splD D := by unfold splV; rw [if_pos hs]
      have HS := Lib.hid (fun W (k : Mat W A cp D) => hvd ▸ sSplitsOf_any A cp D W k)
      have h2 := splD_two hs
      obtain ⟨R, hR⟩ : ∃ R, splD D = R := ⟨_, rfl⟩
      rw [hR] at HS h2 HF
      have HL := Lib.hid (fun A1 c1 W (k : Mat W A1 c1 R) => l10Divided_any A1 c1 R a b W k h2 (by omega) (by omega))
      rw [hs] at HC
      clear hs hpt pa pb hf hvd hR h2
      go_enter Try.func30, Try.ntmps30
      go_wp2_with fail
      refine (HC.out _ (HM.out.ext (by repeat (first | exact Ext.refl _ | assumption | apply Ext.drewN' | apply Ext.alloc' | refine Ext.trans ?_ (by assumption))))).mono ?_
      rintro e w1 ⟨rfl, m1, rfl⟩
      go_wp2_with fail
      refine (l1In_any _ _ _ _).mono ?_
      rintro e w2 ⟨rfl, rfl⟩
      go_wp2_with fail
      refine (l1In_any _ _ _ _).mono ?_
      rintro e w3 ⟨rfl, rfl⟩
      go_wp2_with fail
      refine (HS.out _ (HM.out.ext (by repeat (first | exact Ext.refl _ | assumption | apply Ext.drewN' | apply Ext.alloc' | refine Ext.trans ?_ (by assumption))))).mono ?_
      rintro e w4 ⟨A1, c1, V1, rfl, hL, -, -, hx4⟩
      have HML := Lib.hid hL.mat
      clear hL
      go_wp2_with fail
      refine (HL.out A1 c1 _ (HML.out.ext (Ext.refl _))).mono ?_
      rintro e w5 ⟨rfl, m5, rfl⟩
      go_wp2
      go_ret
      exact ⟨ret_int HF.out.symm, (by repeat (first | exact Ext.refl _ | assumption | apply Ext.drewN' | apply Ext.alloc' | refine Ext.trans ?_ (by assumption)))⟩

theorem div_ge {D : List (List Int)} (hs : spB D = true) (a b : Nat) : 0 ≤ divL (splD D) a b ∧ divL (splD D) a b ≤ 7680 := divL_bd (splD_two hs) a b

end Go.Proofs.Ytimelegkgaimjaa
