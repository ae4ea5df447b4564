/- What is proved: spec.SplitsOf and impl.SplitsOf return the same rows, as new memory. No condition but the rows' size. -/
import Derived.Test.YtimelegkgaimjaaSplits
namespace Go.Proofs.Ytimelegkgaimjaa
open Go.RowKit

theorem pow_nat {D : List (List Int)} : ((2 : Int) ^ (D.length - 1)) = ((2 ^ (D.length - 1) : Nat) : Int) := by simp
theorem splitB_mk {D : List (List Int)} {k : Nat} (hs : spB D = true) (h2 : 2 ≤ D.length) (k1 : 1 ≤ k) (k2 : k < 2 ^ (D.length - 1)) : splitB D k = true := by
  unfold splitB
  rw [hs, pow_nat]
  simp only [Bool.true_and, decide_eq_true_eq]
  exact ⟨h2, by omega, by exact_mod_cast k2⟩
/-- no lot at all -/
theorem splV_nil {D : List (List Int)} (h : splitB D 1 = false) : splV D = [] := by
  unfold splV
  by_cases hs : spB D = true
  · rw [if_pos hs]
    have n1 := (spB_len hs).1
    by_cases h2 : 2 ≤ D.length
    · have := splitB_mk hs h2 (Nat.le_refl 1) (Nat.one_lt_two_pow (by omega))
      rw [show ((1 : Nat) : Int) = 1 from rfl] at this
      rw [this] at h; cases h
    · have e : D.length = 1 := by omega
      unfold splD splL splG
      rw [e]
      rfl
  · rw [if_neg hs]
theorem splV_some {D : List (List Int)} (h : splitB D 1 = true) : splV D = splD D := by
  unfold splV; rw [if_pos (iIsolatedBy_any.splitB_parts' h).1]

set_option maxRecDepth 100000 in
set_option maxHeartbeats 4000000 in
theorem iSplitsOf_any (A : Option Addr) (cp : Nat) (D : List (List Int)) (w : World) (h : Mat w A cp D) :
    Calls Try.prog 18 #[.slice A D.length cp] w (FreshM w (splV D)) := by
  have HM := Lib.hid h
  have HS := Lib.hid (isSpace_any A cp D w h)
  cases e : spB D with
  | false =>
    have HT := Lib.hid (show splV D = [] by unfold splV; rw [e]; rfl)
    rw [e] at HS
    clear e
    go_enter Try.func18, Try.ntmps18
    go_wp2_with fail
    refine (HS.out).mono ?_
    rintro e w1 ⟨rfl, m1, rfl⟩
    go_wp2
    go_ret
    rw [HT.out]
    exact (AccM.nil (w0 := w) (by repeat (first | exact Ext.refl _ | assumption | apply Ext.drewN' | apply Ext.alloc' | refine Ext.trans ?_ (by assumption))) (fun _ => .slice none 0 0)).done
  | true =>
    have HT := Lib.hid (show splV D = splD D by unfold splV; rw [e]; rfl)
    have HC := Lib.hid (fun W (k : Mat W A cp D) => splitsOf_any A cp D W k e)
    rw [e] at HS
    clear e
    go_enter Try.func18, Try.ntmps18
    go_wp2_with fail
    refine (HS.out).mono ?_
    rintro e w1 ⟨rfl, m1, rfl⟩
    go_wp2_with fail
    refine (HC.out _ (HM.out.ext (by repeat (first | exact Ext.refl _ | assumption | apply Ext.drewN' | apply Ext.alloc' | refine Ext.trans ?_ (by assumption))))).mono ?_
    rintro e w2 hf
    obtain ⟨A2, c2, V2, rfl, h1, h2, h3, h4⟩ := hf
    go_wp2
    go_ret
    rw [HT.out]
    exact ⟨A2, c2, V2, rfl, h1, h2, fun i hi g hg => h3 i hi g hg, Ext.trans (by repeat (first | exact Ext.refl _ | assumption | apply Ext.drewN' | apply Ext.alloc' | refine Ext.trans ?_ (by assumption))) h4⟩

set_option maxRecDepth 100000 in
set_option maxHeartbeats 4000000 in
theorem sSplitsOf_any (A : Option Addr) (cp : Nat) (D : List (List Int)) (w : World) (h : Mat w A cp D) :
    Calls Try.prog 20 #[.slice A D.length cp] w (FreshM w (splV D)) := by
  have HM := Lib.hid h
  have HS := Lib.hid (fun W (k : Mat W A cp D) => sSplitOk_any A cp D 1 W k)
  cases e : splitB D 1 with
  | false =>
    have HT := Lib.hid (splV_nil e)
    rw [e] at HS
    clear e
    go_enter Try.func20, Try.ntmps20
    go_wp2_with fail
    refine (HS.out _ (HM.out.ext (by repeat (first | exact Ext.refl _ | assumption | apply Ext.drewN' | apply Ext.alloc' | refine Ext.trans ?_ (by assumption))))).mono ?_
    rintro e w1 ⟨rfl, m1, rfl⟩
    go_wp2
    go_ret
    rw [HT.out]
    exact ((AccM.empty (Ext.refl _) (fun _ => .slice none 0 0)).on (by repeat (first | exact Ext.refl _ | assumption | apply Ext.drewN' | apply Ext.alloc' | refine Ext.trans ?_ (by assumption)))).done
  | true =>
    obtain ⟨hs, h2, h6, -, -, -⟩ := iIsolatedBy_any.splitB_parts' e
    obtain ⟨N, hN⟩ : ∃ N : Nat, 2 ^ (D.length - 1) = N := ⟨_, rfl⟩
    have hw : wrap64 (2 ^ (D.length - 1)) = ((N : Nat) : Int) := by rw [wrap_pow (by omega), ← hN]; simp
    obtain ⟨N1, N2⟩ : 1 ≤ N ∧ N ≤ 32 := by rw [← hN]; exact pow_bd h6
    have HT := Lib.hid (show splV D = splL (fun k => isoI D k) N by rw [splV_some e]; unfold splD; rw [hN])
    have HC := Lib.hid (fun (k : Nat) W (k1 : 1 ≤ k) (k2 : k < N) (q : Mat W A cp D) => (iso_same (splitB_mk hs h2 k1 (by rw [hN]; exact k2))) ▸ l10Isolated_any A cp D k W q (spB_far hs) (by omega))
    have HG := Lib.hid (fun k : Nat => isoI_le D k)
    have n1' : (0 : Int) ≤ (D.length : Int) - 1 := by omega
    rw [e] at HS
    clear hN h e hs
    go_enter Try.func20, Try.ntmps20
    go_wp2_with fail
    refine (HS.out _ (HM.out.ext (by repeat (first | exact Ext.refl _ | assumption | apply Ext.drewN' | apply Ext.alloc' | refine Ext.trans ?_ (by assumption))))).mono ?_
    rintro e w1 ⟨rfl, m1, rfl⟩
    go_wp2
    go_loopg [3, 4] (N - 1) (fun g s3 s4 wr => ∃ (k : Nat), k + g = N ∧ 1 ≤ k ∧ s4 = .int .i64 k ∧ ColR (fun k => isoI D k) w wr s3 g k (splL (fun k => isoI D k) N))
    case atStart => exact ⟨1, by omega, Nat.le_refl _, rfl, [], fun _ => .slice none 0 0, (AccM.empty (Ext.refl _) _).on (by repeat (first | exact Ext.refl _ | assumption | apply Ext.drewN' | apply Ext.alloc' | refine Ext.trans ?_ (by assumption))), by simp, rfl⟩
    case round =>
      obtain ⟨k, hi, hk1, rfl, hcol⟩ := hrel
      by_cases hin : k < N
      · obtain ⟨g', rfl⟩ : ∃ g', gk = g' + 1 := ⟨gk - 1, by omega⟩
        have hin' : (k : Int) < (N : Nat) := by omega
        have hx := hcol.x
        by_cases e : 0 < isoI D k
        · have HE := Lib.hid e
          go_wp2_with fail
          refine (HC.out k _ hk1 hin (HM.out.ext hx)).mono ?_
          rintro e w1 ⟨rfl, m1, rfl⟩
          have hcol2 := hcol.on (show Ext wr (wr.drewN m1) from (by repeat (first | exact Ext.refl _ | assumption | apply Ext.drewN' | apply Ext.alloc' | refine Ext.trans ?_ (by assumption))))
          go_wp2_with (at_builtin; refine ColR.push (y := isoI D k) rfl Try.underlying23 infoR rfl (.tmp 24) (.tmp 28) rfl _ rfl rfl hcol2 HE.out rfl (by omega) ?_; intro v' w' hcol')
          go_roundg g'
          case measure => omega
          case rel => exact ⟨k + 1, by omega, by omega, by go_num, hcol'⟩
        · have HE := Lib.hid e
          go_wp2_with fail
          refine (HC.out k _ hk1 hin (HM.out.ext hx)).mono ?_
          rintro e w1 ⟨rfl, m1, rfl⟩
          have hcol2 := hcol.on (show Ext wr (wr.drewN m1) from (by repeat (first | exact Ext.refl _ | assumption | apply Ext.drewN' | apply Ext.alloc' | refine Ext.trans ?_ (by assumption))))
          go_wp2
          go_roundg g'
          case measure => omega
          case rel => exact ⟨k + 1, by omega, by omega, by go_num, hcol2.skip (by have := HE.out; omega)⟩
      · have hin' : ¬ (k : Int) < (N : Nat) := by omega
        obtain rfl : gk = 0 := by omega
        go_wp2
        go_ret
        rw [HT.out]
        exact hcol.done
end Go.Proofs.Ytimelegkgaimjaa
