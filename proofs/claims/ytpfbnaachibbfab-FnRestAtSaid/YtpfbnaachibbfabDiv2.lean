/- What is proved: DividedAt and RestAt of both answer alike. No condition but the rows' size. -/
import Derived.Test.YtpfbnaachibbfabDiv
namespace Go.Proofs.Ytpfbnaachibbfab
open Go.RowKit

def divV (D : List (List Int)) (p q : Int) : Int := if pointB D p = true ∧ pointB D q = true then divL (splD D) p.toNat q.toNat else -1
def restV (D : List (List Int)) (p q : Int) : Int := if pointB D p = true ∧ pointB D q = true then 2 * at2 D p.toNat q.toNat - divL (splD D) p.toNat q.toNat else -1
theorem ptsB_two (D : List (List Int)) (p q : Int) : ptsB D [p, q] = (pointB D p && pointB D q) := by
  unfold ptsB; simp only [List.all_cons, List.all_nil, Bool.and_true]
theorem ptsB_two_no {D : List (List Int)} {p q : Int} (h : ptsB D [p, q] = false) : ¬ (pointB D p = true ∧ pointB D q = true) := by
  rintro ⟨h1, h2⟩; rw [ptsB_two, h1, h2] at h; cases h
theorem ints_two (w : World) (a b : Int) : Ints (w.alloc (.cells #[.int .i64 a, .int .i64 b] 3)) (some ⟨w.heap.size, 0, none⟩) 2 [a, b] := leafI (xs := [a, b]) (leaf_two w a b)
theorem hpt_of {D : List (List Int)} (hs : spB D = true) (x : Int) : inB x 0 (D.length - 1) = pointB D x := by
  unfold inB pointB
  rw [hs, Bool.true_and]
  exact b_dd (by omega)
theorem pointB_no {D : List (List Int)} (hs : spB D = false) (x : Int) : pointB D x = false := by unfold pointB; rw [hs]; rfl

set_option maxRecDepth 100000 in
set_option maxHeartbeats 2000000 in
theorem iDividedAt_any (A : Option Addr) (cp : Nat) (D : List (List Int)) (p q : Int) (w : World) (h : Mat w A cp D) :
    Calls Try.prog 42 #[.slice A D.length cp, .int .i64 p, .int .i64 q] w fun e w' => e = .returned (.int .i64 (divV D p q)) ∧ Ext w w' := by
  have HP := Lib.hid (fun W (k : Mat W A cp D) (k2 : Ints W (some ⟨w.heap.size, 0, none⟩) 2 [p, q]) => arePoints_any A cp D (some ⟨w.heap.size, 0, none⟩) 2 [p, q] W k k2)
  have HI := Lib.hid (ints_two w p q)
  have HM := Lib.hid h
  cases e : ptsB D [p, q] with
  | false =>
    have HF := Lib.hid (show divV D p q = -1 from if_neg (ptsB_two_no e))
    rw [e] at HP
    clear e
    go_enter Try.func42, Try.ntmps42
    go_wp2_with fail
    refine (HP.out _ (HM.out.ext (Ext.alloc _ _)) HI.out).mono ?_
    rintro e w1 ⟨rfl, hx1⟩
    go_wp2
    go_ret
    exact ⟨ret_int HF.out.symm, (by repeat (first | exact Ext.refl _ | assumption | apply Ext.drewN' | apply Ext.alloc' | refine Ext.trans ?_ (by assumption)))⟩
  | true =>
    have e2 := e
    rw [ptsB_two, Bool.and_eq_true] at e2
    obtain ⟨e3, e4⟩ := e2
    have hf : divV D p q = divL (splD D) p.toNat q.toNat := if_pos ⟨e3, e4⟩
    obtain ⟨hs, a, rfl, ha⟩ := pointB_parts e3
    obtain ⟨-, b, rfl, hb⟩ := pointB_parts e4
    have HF := Lib.hid (show divV D a b = divL (splD D) a b from hf)
    rw [e] at HP
    have HC := Lib.hid (fun W (k : Mat W A cp D) => dividedAt_any A cp D a b W k hs ha hb)
    clear e e3 e4 hs hf
    go_enter Try.func42, Try.ntmps42
    go_wp2_with fail
    refine (HP.out _ (HM.out.ext (Ext.alloc _ _)) HI.out).mono ?_
    rintro e w1 ⟨rfl, hx1⟩
    go_wp2_with fail
    refine (HC.out _ (HM.out.ext (by repeat (first | exact Ext.refl _ | assumption | apply Ext.drewN' | apply Ext.alloc' | refine Ext.trans ?_ (by assumption))))).mono ?_
    rintro e w2 ⟨rfl, hx2⟩
    go_wp2
    go_ret
    exact ⟨ret_int HF.out.symm, (by repeat (first | exact Ext.refl _ | assumption | apply Ext.drewN' | apply Ext.alloc' | refine Ext.trans ?_ (by assumption)))⟩

set_option maxRecDepth 100000 in
set_option maxHeartbeats 2000000 in
theorem sDividedAt_any (A : Option Addr) (cp : Nat) (D : List (List Int)) (p q : Int) (w : World) (h : Mat w A cp D) :
    Calls Try.prog 71 #[.slice A D.length cp, .int .i64 p, .int .i64 q] w fun e w' => e = .returned (.int .i64 (divV D p q)) ∧ Ext w w' := by
  have hcm := h.2.1
  have hlc := h.1
  unfold maxLen at hcm
  have HC := Lib.hid (fun W (k : Mat W A cp D) => SpaceOk_any A cp D W k)
  have HM := Lib.hid h
  cases hs : spB D with
  | false =>
    have HF := Lib.hid (show divV D p q = -1 from if_neg (fun k => absurd (k.1.symm.trans (pointB_no hs p)) (by decide)))
    rw [hs] at HC
    clear hs
    go_enter Try.func71, Try.ntmps71
    go_wp2_with fail
    refine (HC.out _ (HM.out.ext (by repeat (first | exact Ext.refl _ | assumption | apply Ext.drewN' | apply Ext.alloc' | refine Ext.trans ?_ (by assumption))))).mono ?_
    rintro e w1 ⟨rfl, m1, rfl⟩
    go_wp2
    go_ret
    exact ⟨ret_int HF.out.symm, (by repeat (first | exact Ext.refl _ | assumption | apply Ext.drewN' | apply Ext.alloc' | refine Ext.trans ?_ (by assumption)))⟩
  | true =>
    have hpt := hpt_of hs
    cases ea : inB p 0 (D.length - 1) with
    | false =>
      have HF := Lib.hid (show divV D p q = -1 from if_neg (fun k => absurd (k.1.symm.trans ((hpt p).symm.trans ea)) (by decide)))
      rw [hs] at HC
      clear hs hpt
      go_enter Try.func71, Try.ntmps71
      go_wp2_with fail
      refine (HC.out _ (HM.out.ext (by repeat (first | exact Ext.refl _ | assumption | apply Ext.drewN' | apply Ext.alloc' | refine Ext.trans ?_ (by assumption))))).mono ?_
      rintro e w1 ⟨rfl, m1, rfl⟩
      go_wp2_with fail
      refine (l1In_any _ _ _ _).mono ?_
      rintro e w2 ⟨rfl, rfl⟩
      go_wp2
      go_ret
      exact ⟨ret_int HF.out.symm, (by repeat (first | exact Ext.refl _ | assumption | apply Ext.drewN' | apply Ext.alloc' | refine Ext.trans ?_ (by assumption)))⟩
    | true =>
    cases eb : inB q 0 (D.length - 1) with
    | false =>
      have HF := Lib.hid (show divV D p q = -1 from if_neg (fun k => absurd (k.2.symm.trans ((hpt q).symm.trans eb)) (by decide)))
      rw [hs] at HC
      clear hs hpt
      go_enter Try.func71, Try.ntmps71
      go_wp2_with fail
      refine (HC.out _ (HM.out.ext (by repeat (first | exact Ext.refl _ | assumption | apply Ext.drewN' | apply Ext.alloc' | refine Ext.trans ?_ (by assumption))))).mono ?_
      rintro e w1 ⟨rfl, m1, rfl⟩
      go_wp2_with fail
      refine (l1In_any _ _ _ _).mono ?_
      rintro e w2 ⟨rfl, rfl⟩
      go_wp2_with fail
      refine (l1In_any _ _ _ _).mono ?_
      rintro e w3 ⟨rfl, rfl⟩
      go_wp2
      go_ret
      exact ⟨ret_int HF.out.symm, (by repeat (first | exact Ext.refl _ | assumption | apply Ext.drewN' | apply Ext.alloc' | refine Ext.trans ?_ (by assumption)))⟩
    | true =>
      have pa := hpt p
      have pb := hpt q
      rw [ea] at pa
      rw [eb] at pb
      have hf : divV D p q = divL (splD D) p.toNat q.toNat := if_pos ⟨pa.symm, pb.symm⟩
      obtain ⟨-, a, rfl, ha⟩ := pointB_parts pa.symm
      obtain ⟨-, b, rfl, hb⟩ := pointB_parts pb.symm
      have HF := Lib.hid (show divV D a b = divL (splD D) a b from hf)
      have hn6 := (spB_len hs).2
      have hvd : splV D = splD D := by unfold splV; rw [if_pos hs]
      have HS := Lib.hid (fun W (k : Mat W A cp D) => hvd ▸ sSplitsOf_any A cp D W k)
      have h2 := splD_two hs
      obtain ⟨R, hR⟩ : ∃ R, splD D = R := ⟨_, rfl⟩
      rw [hR] at HS h2 HF
      have HL := Lib.hid (fun A1 c1 W (k : Mat W A1 c1 R) => l10Divided_any A1 c1 R a b W k h2 (by omega) (by omega))
      rw [hs] at HC
      clear hs hpt pa pb hf hvd hR h2
      go_enter Try.func71, Try.ntmps71
      go_wp2_with fail
      refine (HC.out _ (HM.out.ext (by repeat (first | exact Ext.refl _ | assumption | apply Ext.drewN' | apply Ext.alloc' | refine Ext.trans ?_ (by assumption))))).mono ?_
      rintro e w1 ⟨rfl, m1, rfl⟩
      go_wp2_with fail
      refine (l1In_any _ _ _ _).mono ?_
      rintro e w2 ⟨rfl, rfl⟩
      go_wp2_with fail
      refine (l1In_any _ _ _ _).mono ?_
      rintro e w3 ⟨rfl, rfl⟩
      go_wp2_with fail
      refine (HS.out _ (HM.out.ext (by repeat (first | exact Ext.refl _ | assumption | apply Ext.drewN' | apply Ext.alloc' | refine Ext.trans ?_ (by assumption))))).mono ?_
      rintro e w4 ⟨A1, c1, V1, rfl, hL, -, -, hx4⟩
      have HML := Lib.hid hL.mat
      clear hL
      go_wp2_with fail
      refine (HL.out A1 c1 _ (HML.out.ext (Ext.refl _))).mono ?_
      rintro e w5 ⟨rfl, m5, rfl⟩
      go_wp2
      go_ret
      exact ⟨ret_int HF.out.symm, (by repeat (first | exact Ext.refl _ | assumption | apply Ext.drewN' | apply Ext.alloc' | refine Ext.trans ?_ (by assumption)))⟩

theorem div_ge {D : List (List Int)} (hs : spB D = true) (a b : Nat) : 0 ≤ divL (splD D) a b ∧ divL (splD D) a b ≤ 7680 := divL_bd (splD_two hs) a b

set_option maxRecDepth 100000 in
set_option maxHeartbeats 2000000 in
theorem sRestAt_any (A : Option Addr) (cp : Nat) (D : List (List Int)) (p q : Int) (w : World) (h : Mat w A cp D) :
    Calls Try.prog 41 #[.slice A D.length cp, .int .i64 p, .int .i64 q] w fun e w' => e = .returned (.int .i64 (restV D p q)) ∧ Ext w w' := by
  have HC := Lib.hid (fun W (k : Mat W A cp D) => sDividedAt_any A cp D p q W k)
  have HM := Lib.hid h
  by_cases e : pointB D p = true ∧ pointB D q = true
  · have hd : divV D p q = divL (splD D) p.toNat q.toNat := if_pos e
    have hr : restV D p q = 2 * at2 D p.toNat q.toNat - divL (splD D) p.toNat q.toNat := if_pos e
    obtain ⟨hs, a, rfl, ha⟩ := pointB_parts e.1
    obtain ⟨-, b, rfl, hb⟩ := pointB_parts e.2
    rw [show divV D a b = divL (splD D) a b from hd] at HC
    obtain ⟨v0, v1⟩ := div_ge hs a b
    obtain ⟨⟨hn1, hn6⟩, hsq, hcells⟩ := farB_parts (spB_far hs)
    obtain ⟨bk, o, rc, rb, ro, hA, hrow, -, hcell, -⟩ := h.square hsq
    obtain rfl := hA (by omega)
    obtain ⟨d0, d1, -, -⟩ := hcells a ha b hb
    obtain ⟨v, hv⟩ : ∃ v, divL (splD D) a b = v := ⟨_, rfl⟩
    have HF := Lib.hid (show restV D a b = 2 * at2 D a b - v by rw [← hv]; exact hr)
    rw [hv] at HC v0 v1
    have HR := Lib.hid (hrow a ha)
    have HCE := Lib.hid (hcell a ha b hb)
    have ha' : (a : Int) < (D.length : Nat) := by omega
    have hb' : (b : Int) < (D.length : Nat) := by omega
    clear e hs hsq hcells hrow hcell hd hr hv
    go_enter Try.func41, Try.ntmps41
    go_wp2_with fail
    refine (HC.out _ (HM.out.ext (by repeat (first | exact Ext.refl _ | assumption | apply Ext.drewN' | apply Ext.alloc' | refine Ext.trans ?_ (by assumption))))).mono ?_
    rintro e w1 ⟨rfl, hx1⟩
    have r1 := hx1.cell HR.out
    have c1 := hx1.cell HCE.out
    go_wp2
    go_ret
    exact ⟨ret_int HF.out.symm, (by repeat (first | exact Ext.refl _ | assumption | apply Ext.drewN' | apply Ext.alloc' | refine Ext.trans ?_ (by assumption)))⟩
  · rw [show divV D p q = -1 from if_neg e] at HC
    have HF := Lib.hid (show restV D p q = -1 from if_neg e)
    clear e
    go_enter Try.func41, Try.ntmps41
    go_wp2_with fail
    refine (HC.out _ (HM.out.ext (by repeat (first | exact Ext.refl _ | assumption | apply Ext.drewN' | apply Ext.alloc' | refine Ext.trans ?_ (by assumption))))).mono ?_
    rintro e w1 ⟨rfl, hx1⟩
    go_wp2
    go_ret
    exact ⟨ret_int HF.out.symm, (by repeat (first | exact Ext.refl _ | assumption | apply Ext.drewN' | apply Ext.alloc' | refine Ext.trans ?_ (by assumption)))⟩

set_option maxRecDepth 100000 in
set_option maxHeartbeats 2000000 in
theorem iRestAt_any (A : Option Addr) (cp : Nat) (D : List (List Int)) (p q : Int) (w : World) (h : Mat w A cp D) :
    Calls Try.prog 40 #[.slice A D.length cp, .int .i64 p, .int .i64 q] w fun e w' => e = .returned (.int .i64 (restV D p q)) ∧ Ext w w' := by
  have HP := Lib.hid (fun W (k : Mat W A cp D) (k2 : Ints W (some ⟨w.heap.size, 0, none⟩) 2 [p, q]) => arePoints_any A cp D (some ⟨w.heap.size, 0, none⟩) 2 [p, q] W k k2)
  have HI := Lib.hid (ints_two w p q)
  have HM := Lib.hid h
  cases e : ptsB D [p, q] with
  | false =>
    have HF := Lib.hid (show restV D p q = -1 from if_neg (ptsB_two_no e))
    rw [e] at HP
    clear e
    go_enter Try.func40, Try.ntmps40
    go_wp2_with fail
    refine (HP.out _ (HM.out.ext (Ext.alloc _ _)) HI.out).mono ?_
    rintro e w1 ⟨rfl, hx1⟩
    go_wp2
    go_ret
    exact ⟨ret_int HF.out.symm, (by repeat (first | exact Ext.refl _ | assumption | apply Ext.drewN' | apply Ext.alloc' | refine Ext.trans ?_ (by assumption)))⟩
  | true =>
    have e2 := e
    rw [ptsB_two, Bool.and_eq_true] at e2
    obtain ⟨e3, e4⟩ := e2
    have hr : restV D p q = 2 * at2 D p.toNat q.toNat - divL (splD D) p.toNat q.toNat := if_pos ⟨e3, e4⟩
    obtain ⟨hs, a, rfl, ha⟩ := pointB_parts e3
    obtain ⟨-, b, rfl, hb⟩ := pointB_parts e4
    have HC := Lib.hid (fun W (k : Mat W A cp D) => dividedAt_any A cp D a b W k hs ha hb)
    obtain ⟨v0, v1⟩ := div_ge hs a b
    obtain ⟨⟨hn1, hn6⟩, hsq, hcells⟩ := farB_parts (spB_far hs)
    obtain ⟨bk, o, rc, rb, ro, hA, hrow, -, hcell, -⟩ := h.square hsq
    obtain rfl := hA (by omega)
    obtain ⟨d0, d1, -, -⟩ := hcells a ha b hb
    obtain ⟨v, hv⟩ : ∃ v, divL (splD D) a b = v := ⟨_, rfl⟩
    have HF := Lib.hid (show restV D a b = 2 * at2 D a b - v by rw [← hv]; exact hr)
    rw [hv] at HC v0 v1
    rw [e] at HP
    have HR := Lib.hid (hrow a ha)
    have HCE := Lib.hid (hcell a ha b hb)
    have ha' : (a : Int) < (D.length : Nat) := by omega
    have hb' : (b : Int) < (D.length : Nat) := by omega
    clear e e3 e4 hs hsq hcells hrow hcell hr hv
    go_enter Try.func40, Try.ntmps40
    go_wp2_with fail
    refine (HP.out _ (HM.out.ext (Ext.alloc _ _)) HI.out).mono ?_
    rintro e w1 ⟨rfl, hx1⟩
    have Hx1 := Lib.hid (show Ext w w1 from (by repeat (first | exact Ext.refl _ | assumption | apply Ext.drewN' | apply Ext.alloc' | refine Ext.trans ?_ (by assumption))))
    go_wp2
    have r1 : ∀ x : EW w1, x.to.cell? _ = _ := fun x => (Hx1.out.trans x.ok).cell HR.out
    have c1 : ∀ x : EW w1, x.to.cell? _ = _ := fun x => (Hx1.out.trans x.ok).cell HCE.out
    refine wp_region_quiet_ext (by kernel_rfl) (by kernel_rfl) ?_
    repeat (go_big_quiet_step (((go_at_call 114; exact Calls.ew_of (HC.out _ (HM.out.ext (Hx1.out.trans (EW.ok _))))))))
    refine wpQuiet_nil ?_
    intro _ hw'
    obtain ⟨⟨wq, hq⟩, hw''⟩ := hw'
    subst hw''
    go_wp2
    go_ret
    have hx := Hx1.out
    exact ⟨ret_int HF.out.symm, (by repeat (first | exact Ext.refl _ | assumption | apply Ext.drewN' | apply Ext.alloc' | refine Ext.trans ?_ (by assumption)))⟩
end Go.Proofs.Ytpfbnaachibbfab
