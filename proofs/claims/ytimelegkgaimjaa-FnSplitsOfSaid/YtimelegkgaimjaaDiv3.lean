/- What is proved: AllDivided of both answer alike. No condition but the rows' size. -/
import Derived.Test.YtimelegkgaimjaaDiv2
namespace Go.Proofs.Ytimelegkgaimjaa
open Go.RowKit

def okD (D : List (List Int)) (i j : Nat) : Prop := divL (splD D) i j = 2 * at2 D i j
def AllD (D : List (List Int)) : Prop := ∀ i, i < D.length → ∀ j, j < D.length → okD D i j
noncomputable def allV (D : List (List Int)) : Bool := open Classical in spB D && decide (AllD D)
theorem allV_yes {D : List (List Int)} (hs : spB D = true) (h : AllD D) : allV D = true := by
  classical
  unfold allV; rw [hs, decide_eq_true h]; rfl
theorem allV_no {D : List (List Int)} (h : ¬ AllD D) : allV D = false := by
  classical
  unfold allV; rw [decide_eq_false h, Bool.and_false]
theorem allV_sp {D : List (List Int)} (hs : spB D = false) : allV D = false := by
  unfold allV; rw [hs]; rfl
theorem divL_self (R : List (List Int)) (a : Nat) : divL R a a = 0 := by
  have := itR_inv (f := fun i s => if bitI (at2 R i 0) a = bitI (at2 R i 0) a then s else s + at2 R i 1) (fun _ (s : Int) => s = 0) R.length 0 0 rfl (fun j s _ _ h => by simp only [if_true]; exact h)
  exact this
theorem divL_sym (R : List (List Int)) (a b : Nat) : divL R a b = divL R b a := by
  unfold divL divS
  congr 1
  funext i s
  by_cases q : bitI (at2 R i 0) a = bitI (at2 R i 0) b
  · rw [if_pos q, if_pos q.symm]
  · rw [if_neg q, if_neg (Ne.symm q)]
theorem okD_half {D : List (List Int)} (hs : spB D = true) (h : ∀ i, i < D.length → ∀ j, j < i → okD D i j) : AllD D := fun i hi j hj => by
  have hf := spB_far hs
  unfold okD at *
  rcases Nat.lt_trichotomy i j with k | k | k
  · rw [divL_sym, h j hj i k, at2_sym hf hi hj]
  · subst k
    rw [divL_self]
    have := ((farB_parts hf).2.2 i hi i hi).2.2.2
    omega
  · exact h i hi j k

set_option maxRecDepth 100000 in
set_option maxHeartbeats 4000000 in
theorem iAllDivided_any (A : Option Addr) (cp : Nat) (D : List (List Int)) (w : World) (h : Mat w A cp D) :
    Calls Try.prog 26 #[.slice A D.length cp] w fun e w' => e = .returned (.bool (allV D)) ∧ Ext w w' := by
  have HS := Lib.hid (isSpace_any A cp D w h)
  have HM := Lib.hid h
  cases e : spB D with
  | false =>
    have HF := Lib.hid (allV_sp e)
    rw [e] at HS
    clear e
    go_enter Try.func26, Try.ntmps26
    go_wp2_with fail
    refine (HS.out).mono ?_
    rintro e w1 ⟨rfl, m1, rfl⟩
    go_wp2
    go_ret
    exact ⟨ret_bool HF.out.symm, (by repeat (first | exact Ext.refl _ | assumption | apply Ext.drewN' | apply Ext.alloc' | refine Ext.trans ?_ (by assumption)))⟩
  | true =>
    have HC := Lib.hid (fun (i j : Nat) (hi : i < D.length) (hj : j < D.length) W (k : Mat W A cp D) => dividedAt_any A cp D i j W k e hi hj)
    obtain ⟨⟨hn1, hn6⟩, hsq, hcells⟩ := farB_parts (spB_far e)
    obtain ⟨bk, o, rc, rb, ro, hA, hrow, -, hcell, -⟩ := h.square hsq
    obtain rfl := hA (by omega)
    have HG := Lib.hid (fun a b => div_ge e a b)
    have HY := Lib.hid (fun q => allV_yes e q)
    have HR := Lib.hid hrow
    have HCE := Lib.hid hcell
    have HBD := Lib.hid hcells
    rw [e] at HS
    clear e hsq hcells hrow hcell h hA
    go_enter Try.func26, Try.ntmps26
    go_wp2_with fail
    refine (HS.out).mono ?_
    rintro e w1 ⟨rfl, m1, rfl⟩
    go_wp2
    go_loopg [10] (D.length) (fun g s10 wr => ∃ (i : Nat), i + g = D.length ∧ s10 = .int .i64 i ∧ Ext w wr ∧ Hid (∀ x, x < i → ∀ y, y < D.length → okD D x y))
    case atStart => exact ⟨0, by omega, rfl, by repeat (first | exact Ext.refl _ | assumption | apply Ext.drewN' | apply Ext.alloc' | refine Ext.trans ?_ (by assumption)), Lib.hid (fun x hx => absurd hx (by omega))⟩
    case round =>
      obtain ⟨i, hi, rfl, hxi, Hi⟩ := hrel
      by_cases hini : i < D.length
      · obtain ⟨gi, rfl⟩ : ∃ g', gk = g' + 1 := ⟨gk - 1, by omega⟩
        have hini' : (i : Int) < (D.length : Nat) := by omega
        go_wp2
        go_loopg [15] (D.length) (fun g s15 wr => ∃ (j : Nat), j + g = D.length ∧ s15 = .int .i64 j ∧ Ext w wr ∧ Hid (∀ y, y < j → okD D i y))
        case atStart => exact ⟨0, by omega, rfl, by repeat (first | exact Ext.refl _ | assumption | apply Ext.drewN' | apply Ext.alloc' | refine Ext.trans ?_ (by assumption)), Lib.hid (fun x hx => absurd hx (by omega))⟩
        case round =>
          obtain ⟨j, hj, rfl, hxj, Hj⟩ := hrel
          by_cases hinj : j < D.length
          · obtain ⟨gj, rfl⟩ : ∃ g', gk = g' + 1 := ⟨gk - 1, by omega⟩
            have hinj' : (j : Int) < (D.length : Nat) := by omega
            obtain ⟨d0, d1, -, -⟩ := HBD.out i hini j hinj
            obtain ⟨v0, v1⟩ := HG.out i j
            have HK := Lib.hid (HC.out i j hini hinj)
            by_cases q : divL (splD D) i j = 2 * at2 D i j
            · have HQ := Lib.hid q
              rw [q] at HK v0 v1
              clear q
              have Hx1 := Lib.hid (show Ext w wr from (by repeat (first | exact Ext.refl _ | assumption | apply Ext.drewN' | apply Ext.alloc' | refine Ext.trans ?_ (by assumption))))
              go_wp2
              have r1 : ∀ x : EW wr, x.to.cell? _ = _ := fun x => (Hx1.out.trans x.ok).cell (HR.out i hini)
              have c1 : ∀ x : EW wr, x.to.cell? _ = _ := fun x => (Hx1.out.trans x.ok).cell (HCE.out i hini j hinj)
              refine wp_region_quiet_ext (by kernel_rfl) (by kernel_rfl) ?_
              repeat (go_big_quiet_step (((go_at_call 54; exact Calls.ew_of (HK.out _ (HM.out.ext (Hx1.out.trans (EW.ok _))))))))
              refine wpQuiet_nil ?_
              intro _ hw'
              obtain ⟨⟨wq, hq⟩, hw''⟩ := hw'
              subst hw''
              have hx := Hx1.out
              go_wp2
              go_roundg gj
              case measure => omega
              case rel => exact ⟨j + 1, by omega, by go_num, by repeat (first | exact Ext.refl _ | assumption | apply Ext.drewN' | apply Ext.alloc' | refine Ext.trans ?_ (by assumption)), Lib.hid (by exact fun y hy => if e : y = j then e ▸ HQ.out else Hj.out y (by omega))⟩
            · have HN := Lib.hid (allV_no (D := D) fun k => q (k i hini j hinj))
              obtain ⟨v, hv⟩ : ∃ v, divL (splD D) i j = v := ⟨_, rfl⟩
              rw [hv] at HK q v0 v1
              have hne : decide (v = 2 * at2 D i j) = false := decide_eq_false q
              clear hv
              have Hx1 := Lib.hid (show Ext w wr from (by repeat (first | exact Ext.refl _ | assumption | apply Ext.drewN' | apply Ext.alloc' | refine Ext.trans ?_ (by assumption))))
              go_wp2
              have r1 : ∀ x : EW wr, x.to.cell? _ = _ := fun x => (Hx1.out.trans x.ok).cell (HR.out i hini)
              have c1 : ∀ x : EW wr, x.to.cell? _ = _ := fun x => (Hx1.out.trans x.ok).cell (HCE.out i hini j hinj)
              refine wp_region_quiet_ext (by kernel_rfl) (by kernel_rfl) ?_
              repeat (go_big_quiet_step (((go_at_call 54; exact Calls.ew_of (HK.out _ (HM.out.ext (Hx1.out.trans (EW.ok _))))))))
              refine wpQuiet_nil ?_
              intro _ hw'
              obtain ⟨⟨wq, hq⟩, hw''⟩ := hw'
              subst hw''
              have hx := Hx1.out
              go_wp2
              go_ret
              exact ⟨ret_bool HN.out.symm, (by repeat (first | exact Ext.refl _ | assumption | apply Ext.drewN' | apply Ext.alloc' | refine Ext.trans ?_ (by assumption)))⟩
          · have hinj' : ¬ (j : Int) < (D.length : Nat) := by omega
            obtain rfl : gk = 0 := by omega
            have HT := Lib.hid (show ∀ y, y < D.length → okD D i y from fun y hy => Hj.out y (by omega))
            clear Hj
            go_wp2
            go_roundg gi
            case measure => omega
            case rel => exact ⟨i + 1, by omega, by go_num, by repeat (first | exact Ext.refl _ | assumption | apply Ext.drewN' | apply Ext.alloc' | refine Ext.trans ?_ (by assumption)), Lib.hid (by exact fun x hx => if e : x = i then e ▸ HT.out else Hi.out x (by omega))⟩
      · have hini' : ¬ (i : Int) < (D.length : Nat) := by omega
        obtain rfl : gk = 0 := by omega
        have HT := Lib.hid (HY.out (fun x hx => Hi.out x (by omega)))
        go_wp2
        go_ret
        exact ⟨ret_bool HT.out.symm, (by repeat (first | exact Ext.refl _ | assumption | apply Ext.drewN' | apply Ext.alloc' | refine Ext.trans ?_ (by assumption)))⟩

set_option maxRecDepth 100000 in
set_option maxHeartbeats 4000000 in
theorem sAllDivided_any (A : Option Addr) (cp : Nat) (D : List (List Int)) (w : World) (h : Mat w A cp D) :
    Calls Try.prog 27 #[.slice A D.length cp] w fun e w' => e = .returned (.bool (allV D)) ∧ Ext w w' := by
  have HS := Lib.hid (SpaceOk_any A cp D w h)
  have HM := Lib.hid h
  cases e : spB D with
  | false =>
    have HF := Lib.hid (allV_sp e)
    rw [e] at HS
    clear e
    go_enter Try.func27, Try.ntmps27
    go_wp2_with fail
    refine (HS.out).mono ?_
    rintro e w1 ⟨rfl, m1, rfl⟩
    go_wp2
    go_ret
    exact ⟨ret_bool HF.out.symm, (by repeat (first | exact Ext.refl _ | assumption | apply Ext.drewN' | apply Ext.alloc' | refine Ext.trans ?_ (by assumption)))⟩
  | true =>
    have hvd : splV D = splD D := by unfold splV; rw [if_pos e]
    have HSP := Lib.hid (fun W (k : Mat W A cp D) => hvd ▸ sSplitsOf_any A cp D W k)
    have h2 := splD_two e
    obtain ⟨⟨hn1, hn6⟩, hsq, hcells⟩ := farB_parts (spB_far e)
    obtain ⟨bk, o, rc, rb, ro, hA, hrow, -, hcell, -⟩ := h.square hsq
    obtain rfl := hA (by omega)
    have HG := Lib.hid (fun a b => div_ge e a b)
    have HY := Lib.hid (fun q => allV_yes e (okD_half e q))
    have HNO := Lib.hid (fun i hi j hj (q : ¬ divL (splD D) i j = 2 * at2 D i j) => allV_no (D := D) fun k => q (k i hi j hj))
    have HOK := Lib.hid (show ∀ i j, divL (splD D) i j = 2 * at2 D i j → okD D i j from fun _ _ k => k)
    obtain ⟨R, hR⟩ : ∃ R, splD D = R := ⟨_, rfl⟩
    rw [hR] at HSP h2 HG HNO HOK
    have HL := Lib.hid (fun A1 c1 (i j : Nat) (hi : i < D.length) (hj : j < D.length) W (k : Mat W A1 c1 R) => l10Divided_any A1 c1 R i j W k h2 (by omega) (by omega))
    have HR := Lib.hid hrow
    have HCE := Lib.hid hcell
    have HBD := Lib.hid hcells
    rw [e] at HS
    clear e hsq hcells hrow hcell h hA hvd hR h2
    go_enter Try.func27, Try.ntmps27
    go_wp2_with fail
    refine (HS.out).mono ?_
    rintro e w1 ⟨rfl, m1, rfl⟩
    go_wp2_with fail
    refine (HSP.out _ (HM.out.ext (by repeat (first | exact Ext.refl _ | assumption | apply Ext.drewN' | apply Ext.alloc' | refine Ext.trans ?_ (by assumption))))).mono ?_
    rintro e w4 ⟨A1, c1, V1, rfl, hL, -, -, hx4⟩
    have Hx4 := Lib.hid (show Ext w w4 from (by repeat (first | exact Ext.refl _ | assumption | apply Ext.drewN' | apply Ext.alloc' | refine Ext.trans ?_ (by assumption))))
    have HML := Lib.hid hL.mat
    clear hL hx4
    go_wp2
    go_loopg [4] (D.length) (fun g s4 wr => ∃ (i m : Nat), i + g = D.length ∧ s4 = .int .i64 i ∧ wr = w4.drewN m ∧ Hid (∀ x, x < i → ∀ y, y < x → okD D x y))
    case atStart => exact ⟨0, _, by omega, rfl, by first | rfl | exact drewN_0 _ | exact drewN_add _ _ _, Lib.hid (fun x hx => absurd hx (by omega))⟩
    case round =>
      obtain ⟨i, mi, hi, rfl, rfl, Hi⟩ := hrel
      by_cases hini : i < D.length
      · obtain ⟨gi, rfl⟩ : ∃ g', gk = g' + 1 := ⟨gk - 1, by omega⟩
        have hini' : (i : Int) < (D.length : Nat) := by omega
        go_wp2
        go_loopg [5] (i) (fun g s5 wr => ∃ (j m : Nat), j + g = i ∧ s5 = .int .i64 j ∧ wr = w4.drewN m ∧ Hid (∀ y, y < j → okD D i y))
        case atStart => exact ⟨0, _, by omega, rfl, by first | rfl | exact drewN_0 _ | exact drewN_add _ _ _, Lib.hid (fun x hx => absurd hx (by omega))⟩
        case round =>
          obtain ⟨j, mj, hj, rfl, rfl, Hj⟩ := hrel
          by_cases hinj : j < i
          · obtain ⟨gj, rfl⟩ : ∃ g', gk = g' + 1 := ⟨gk - 1, by omega⟩
            have hinj' : (j : Int) < (i : Nat) := by omega
            have hjn : j < D.length := by omega
            have hjn' : (j : Int) < (D.length : Nat) := by omega
            have hini2 : (i : Int) < (D.length : Nat) := by omega
            obtain ⟨d0, d1, -, -⟩ := HBD.out i hini j hjn
            obtain ⟨v0, v1⟩ := HG.out i j
            have HK := Lib.hid (HL.out A1 c1 i j hini hjn)
            have r1 := Hx4.out.cell (HR.out i hini)
            have c1 := Hx4.out.cell (HCE.out i hini j hjn)
            by_cases q : divL R i j = 2 * at2 D i j
            · have HQ := Lib.hid (HOK.out i j q)
              rw [q] at HK v0 v1
              clear q
              go_wp2
              go_quiet ((go_at_call 55; (first | exact Calls.quiet_of_same (HK.out _ (HML.out.ext (by repeat (first | exact Ext.refl _ | assumption | apply Ext.drewN' | apply Ext.alloc' | refine Ext.trans ?_ (by assumption))))) | exact quiet_add_same (HK.out _ (HML.out.ext (by repeat (first | exact Ext.refl _ | assumption | apply Ext.drewN' | apply Ext.alloc' | refine Ext.trans ?_ (by assumption))))) | exact Calls.quiet_of (HK.out _ (HML.out.ext (by repeat (first | exact Ext.refl _ | assumption | apply Ext.drewN' | apply Ext.alloc' | refine Ext.trans ?_ (by assumption))))) | exact quiet_add (HK.out _ (HML.out.ext (by repeat (first | exact Ext.refl _ | assumption | apply Ext.drewN' | apply Ext.alloc' | refine Ext.trans ?_ (by assumption))))))))
              go_wp2
              go_roundg gj
              case measure => omega
              case rel => exact ⟨j + 1, _, by omega, by go_num, by first | rfl | exact drewN_0 _ | exact drewN_add _ _ _, Lib.hid (by exact fun y hy => if e : y = j then e ▸ HQ.out else Hj.out y (by omega))⟩
            · have HN := Lib.hid (HNO.out i hini j hjn q)
              obtain ⟨v, hv⟩ : ∃ v, divL R i j = v := ⟨_, rfl⟩
              rw [hv] at HK q v0 v1
              have hne : decide (v = 2 * at2 D i j) = false := decide_eq_false q
              clear hv
              go_wp2
              go_quiet ((go_at_call 55; (first | exact Calls.quiet_of_same (HK.out _ (HML.out.ext (by repeat (first | exact Ext.refl _ | assumption | apply Ext.drewN' | apply Ext.alloc' | refine Ext.trans ?_ (by assumption))))) | exact quiet_add_same (HK.out _ (HML.out.ext (by repeat (first | exact Ext.refl _ | assumption | apply Ext.drewN' | apply Ext.alloc' | refine Ext.trans ?_ (by assumption))))) | exact Calls.quiet_of (HK.out _ (HML.out.ext (by repeat (first | exact Ext.refl _ | assumption | apply Ext.drewN' | apply Ext.alloc' | refine Ext.trans ?_ (by assumption))))) | exact quiet_add (HK.out _ (HML.out.ext (by repeat (first | exact Ext.refl _ | assumption | apply Ext.drewN' | apply Ext.alloc' | refine Ext.trans ?_ (by assumption))))))))
              have hx := Hx4.out
              go_wp2
              go_ret
              exact ⟨ret_bool HN.out.symm, (by repeat (first | exact Ext.refl _ | assumption | apply Ext.drewN' | apply Ext.alloc' | refine Ext.trans ?_ (by assumption)))⟩
          · have hinj' : ¬ (j : Int) < (i : Nat) := by omega
            obtain rfl : gk = 0 := by omega
            have HT := Lib.hid (show ∀ y, y < i → okD D i y from fun y hy => Hj.out y (by omega))
            clear Hj
            go_wp2
            go_roundg gi
            case measure => omega
            case rel => exact ⟨i + 1, _, by omega, by go_num, by first | rfl | exact drewN_0 _ | exact drewN_add _ _ _, Lib.hid (by exact fun x hx => if e : x = i then e ▸ HT.out else Hi.out x (by omega))⟩
      · have hini' : ¬ (i : Int) < (D.length : Nat) := by omega
        obtain rfl : gk = 0 := by omega
        have HT := Lib.hid (HY.out (fun x hx => Hi.out x (by omega)))
        have hx := Hx4.out
        go_wp2
        go_ret
        exact ⟨ret_bool HT.out.symm, (by repeat (first | exact Ext.refl _ | assumption | apply Ext.drewN' | apply Ext.alloc' | refine Ext.trans ?_ (by assumption)))⟩
end Go.Proofs.Ytimelegkgaimjaa
