/- What is proved: the law FnExactSplitOk returns true for every input, and its arguments read behind the call as before. No condition. -/
import Derived.Test.YtpcjcgaplmlnlaaSplit
import Derived.Test.YtpcjcgaplmlnlaaFrame
namespace Go.Proofs.Ytpcjcgaplmlnlaa
open Go.RowKit

set_option maxHeartbeats 2000000 in
theorem FnExactSplitOk_walk (A : Option Addr) (c : Nat) (D : List (List Int)) (lot : Int) (w : World) (h : Mat w A c D) :
    Calls Try.prog 5 #[.slice A D.length c, .int .i64 lot] w fun e w' => e = .returned (.bool true) ∧ Ext w w' := by
  by_cases hz : szM D 1048576 < 0
  · go_enter Try.func5, Try.ntmps5
    go_wp2_with fail
    refine (szIntSS_any A c D 1048576 _ h (by omega) (by omega)).mono ?_
    rintro e w1 ⟨rfl, m1, rfl⟩
    go_wp2
    go_ret
    exact ⟨rfl, (by repeat (first | exact Ext.refl _ | assumption | apply Ext.drewN' | apply Ext.alloc' | refine Ext.trans ?_ (by assumption)))⟩
  · obtain ⟨z1, _⟩ := szM_spec (D := D) (l := 1048576) (by omega)
    have z2 : D.length ≤ 1048576 := by omega
    have z3 : ∀ i, i < D.length → (row D i).length ≤ 1048576 := fun i hi => by have := row_le_total hi; omega
    have HZ := Lib.hid z3
    clear z3 z1
    go_enter Try.func5, Try.ntmps5
    go_wp2_with fail
    refine (szIntSS_any A c D 1048576 _ h (by omega) (by omega)).mono ?_
    rintro e w1 ⟨rfl, m1, rfl⟩
    go_wp2_with fail
    refine (toIntSS_any A c D _ (h.ext (by repeat (first | exact Ext.refl _ | assumption | apply Ext.drewN' | apply Ext.alloc' | refine Ext.trans ?_ (by assumption)))) z2 HZ.out).mono ?_
    rintro e w2 ⟨A2, c2, V2, rfl, hM2, hD2, hF2, hx2⟩
    have HM2 := Lib.hid hM2
    have HD2 := Lib.hid hD2
    have HF2 := Lib.hid hF2
    clear hM2 hD2 hF2
    go_wp2_with fail
    refine (sSplitOk_any A2 c2 D lot _ HM2.out.mat).mono ?_
    rintro e w3 ⟨rfl, m3, rfl⟩
    go_wp2_with fail
    refine (toIntSS_any A c D _ (h.ext (by repeat (first | exact Ext.refl _ | assumption | apply Ext.drewN' | apply Ext.alloc' | refine Ext.trans ?_ (by assumption)))) z2 HZ.out).mono ?_
    rintro e w4 ⟨A4, c4, V4, rfl, hM4, hD4, hF4, hx4⟩
    have HM4 := Lib.hid hM4
    have HD4 := Lib.hid hD4
    have HF4 := Lib.hid hF4
    clear hM4 hD4 hF4
    go_wp2_with fail
    refine (iSplitOk_any A4 c4 D lot _ HM4.out.mat).mono ?_
    rintro e w5 ⟨rfl, m5, rfl⟩
    go_wp2_with fail
    refine (toIntSS_any A c D _ (h.ext (by repeat (first | exact Ext.refl _ | assumption | apply Ext.drewN' | apply Ext.alloc' | refine Ext.trans ?_ (by assumption)))) z2 HZ.out).mono ?_
    rintro e w6 ⟨A6, c6, V6, rfl, hM6, hD6, hF6, hx6⟩
    have HM6 := Lib.hid hM6
    have HD6 := Lib.hid hD6
    have HF6 := Lib.hid hF6
    clear hM6 hD6 hF6
    have e1 := eqM_refl D
    go_wp2_with fail
    refine (eqIntSS_any A4 A6 c4 c6 D D _ (HM4.out.mat.ext (by repeat (first | exact Ext.refl _ | assumption | apply Ext.drewN' | apply Ext.alloc' | refine Ext.trans ?_ (by assumption)))) HM6.out.mat).mono ?_
    rintro e w7 ⟨rfl, m7, rfl⟩
    go_wp2
    go_ret
    exact ⟨rfl, (by repeat (first | exact Ext.refl _ | assumption | apply Ext.drewN' | apply Ext.alloc' | refine Ext.trans ?_ (by assumption)))⟩
section
open Go.ChangeShapes Go.WideShapes Go.ChangeAt Go.Deep
theorem FnExactSplitOk_contract (H : Type) (enc : TypeId × Value → H) (W : World) (base : Nat) (args : Array Value) (ds gs : List (DataW H)) (before : List MemPlace)
    (hval : ∀ (j : Nat) t v, Try.f5.params[j]? = some t → args[j]? = some v → Value.okWide Try.prog W .any base t v)
    (hW : DataW.Whole enc Try.prog Try.f5.params.toList Rows.fnExactSplitOkSpec.vars false W args.toList ds gs before) :
    Calls Try.prog 5 args W fun e W' => ∃ v, e = .returned v ∧ Rows.fnExactSplitOkSpec.post enc Try.prog Try.f5 false true false false W args v W' := by
  have hW' := hW
  obtain ⟨p, q, hA0, hV, rfl, hfz, hnd⟩ := hW
  have hA : DataW.TrodAll enc Try.prog W 0 (fun _ => true) true Try.f5.params.toList args.toList ds p := hA0
  rw [Try.params5] at hA hval
  obtain ⟨v0, vs0, d0, ds0, p0, q0, hargs0, rfl, rfl, h0, r0⟩ := trodAll_cons hA
  obtain ⟨v1, vs1, d1, ds1, p1, q1, hargs1, rfl, rfl, h1, r1⟩ := trodAll_cons r0
  obtain ⟨hargsn, rfl, rfl⟩ := trodAll_nil r1
  obtain rfl : args = #[v0, v1] := by cases args; simp_all
  obtain ⟨rfl, rfl⟩ := trodVars_none hV
  clear hA0
  obtain ⟨A0, c0, D, rfl, M0⟩ := read_mat (hval 0 23 v0 rfl rfl) h0
  obtain ⟨lot, rfl, _, _, wf1⟩ := open_int Try.underlying3 (hval 1 3 v1 rfl rfl) h1
  refine (FnExactSplitOk_walk A0 c0 D lot W M0).mono fun e W' ⟨he, hx⟩ => ⟨_, he, post_law laidOut (by rw [Try.params5]; decide +kernel) rfl rfl Try.underlying4 hW' rfl hx⟩
set_option maxRecDepth 100000 in
theorem FnExactSplitOk_lifted (os : Os) (started : os.Started) (H : Type) (enc : TypeId × Value → H) :
    ReturnsInHanded {} Try.checked os 5 .any (Rows.fnExactSplitOkSpec.pre6 enc Try.prog Try.f5 Rows.fnExactSplitOkRow.domain false) (Rows.fnExactSplitOkSpec.post enc Try.prog Try.f5 false true false false) := by
  refine returnsInHanded_of_change (C := Try.checked) own started (by kernel_rfl) Try.func5
    (ChangeSpec.witness6 (enc := enc) (C := Try.checked) false ⟨#[], #[.slice none 0 0, .int .i64 0], []⟩ 8 (by kernel_rfl) (by kernel_rfl) (by kernel_rfl) (by kernel_rfl) rfl) ?_
  intro W base args ds gs before hval hW _ _
  exact FnExactSplitOk_contract H enc W base args ds gs before hval hW
theorem FnExactSplitOk_holds : Rows.FnExactSplitOkSaid :=
  OpenClaim.holds_of_wide 5 Try.f5 rfl rfl rfl rfl rfl rfl rfl ⟨rfl, rfl, rfl, rfl, rfl⟩ rfl rfl rfl rfl rfl (by kernel_rfl) Try.func5 (by kernel_rfl)
    (of_decide_eq_true (by kernel_rfl)) (by unfold Func.isWrapper; first | (rw [if_pos (by decide +kernel)]; kernel_rfl) | (rw [if_neg (by decide +kernel)]; exact ⟨rfl, rfl⟩))
    (fun os started H enc _ => FnExactSplitOk_lifted os started H enc)
end
end Go.Proofs.Ytpcjcgaplmlnlaa
