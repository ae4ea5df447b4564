/- What is proved: the law FnSplitOk returns true for every input, and its argument reads behind the call as before. No condition. -/
import Derived.Test.YtpcjcgaplmlnlabOpen
import Derived.Test.YtpcjcgaplmlnlabDrTree
import Derived.Test.YtpcjcgaplmlnlabAlive
import Derived.Test.YtpcjcgaplmlnlabPl0
namespace Go.Proofs.Ytpcjcgaplmlnlab
open Go.RowKit
set_option maxHeartbeats 2000000 in
theorem drawSplitOk_any (A : Option Addr) (n c : Nat) (w : World) (h : Byt w A n c) :
    Calls Try.prog 19 #[.slice A n c] w fun e w' => ∃ A' c' D l, e = .returned (.tuple #[.slice A' (List.length D) c', .int .i64 l]) ∧ Mat w' A' c' D ∧ -1 ≤ l ∧ l ≤ 36 ∧ Ext w w' := by
  go_enter Try.func19, Try.ntmps19
  go_wp2_with fail
  refine (open_any A n c w h).mono ?_
  rintro e w1 ⟨g, rfl, hx1, hg, hR⟩
  have hlt := hR.lt
  have HR := Lib.hid hR
  have HX := Lib.hid hx1
  clear hR hx1
  go_wp2_with fail
  refine (l20Tree_any HR.out (Nat.le_refl _) (by omega) 9 (by omega) (by omega)).mono ?_
  rintro e w2 ⟨A', c', V, D, rfl, hO, h6, hR2, hX2⟩
  have HO := Lib.hid hO
  have HR2 := Lib.hid hR2
  have HX2 := Lib.hid hX2
  clear hO hR2 hX2
  go_wp2_with fail
  refine (pickU HR2.out 36 (by omega) (by omega) (by omega)).mono ?_
  rintro e w3 ⟨v, rfl, v0, v1, hR3, hO3⟩
  have HM := Lib.hid (HO.out.rd hO3 hlt).mat
  have HX3 := Lib.hid ((HX2.out.rd hO3).ext HX.out hg)
  clear hR3 hO3 HO HR2 HX2
  go_wp2
  go_ret2
  exact ⟨_, _, D, v - 1, rfl, HM.out, by omega, by omega, HX3.out⟩
set_option maxHeartbeats 2000000 in
theorem FnSplitOk_walk (A : Option Addr) (n c : Nat) (w : World) (h : Byt w A n c) :
    Calls Try.prog 6 #[.slice A n c] w fun e w' => e = .returned (.bool true) ∧ Ext w w' := by
  by_cases hz : 1048576 < n
  · have hz' : (1048576 : Int) < (n : Nat) := by omega
    go_enter Try.func6, Try.ntmps6
    go_wp2
    go_ret
    exact ⟨rfl, (by repeat (first | exact Ext.refl _ | assumption | apply Ext.drewN' | apply Ext.alloc' | refine Ext.trans ?_ (by assumption)))⟩
  have hz' : ¬ (1048576 : Int) < (n : Nat) := by omega
  go_enter Try.func6, Try.ntmps6
  go_wp2_with fail
  refine (drawSplitOk_any A n c w h).mono ?_
  rintro e w1 ⟨A1, c1, D, l, rfl, hM, l0, l1, hx1⟩
  have HM := Lib.hid hM
  have HP := Lib.hid (splitB_one (D := D))
  have HZ := Lib.hid (splitB_zero D)
  clear hM
  have hx : Ext w w1 := hx1
  clear hx1
  go_wp2_with fail
  refine (q_ext (iSplitOk_any A1 c1 D l _ (HM.out.ext (by repeat (first | exact Ext.refl _ | assumption | apply Ext.drewN' | apply Ext.alloc' | refine Ext.trans ?_ (by assumption)))))).mono ?_
  rintro e w2 ⟨rfl, hx2⟩
  go_wp2_with fail
  refine (q_ext (sSplitOk_any A1 c1 D l _ (HM.out.ext (by repeat (first | exact Ext.refl _ | assumption | apply Ext.drewN' | apply Ext.alloc' | refine Ext.trans ?_ (by assumption)))))).mono ?_
  rintro e w3 ⟨rfl, hx3⟩
  go_wp2_with fail
  refine (q_ext (iSplitOk_any A1 c1 D 1 _ (HM.out.ext (by repeat (first | exact Ext.refl _ | assumption | apply Ext.drewN' | apply Ext.alloc' | refine Ext.trans ?_ (by assumption)))))).mono ?_
  rintro e w4 ⟨rfl, hx4⟩
  rw [HP.out]
  cases hs : spB D with
  | false =>
    go_wp2_with fail
    refine (q_ext (iSpaceOk_any A1 c1 D _ (HM.out.ext (by repeat (first | exact Ext.refl _ | assumption | apply Ext.drewN' | apply Ext.alloc' | refine Ext.trans ?_ (by assumption)))))).mono ?_
    rintro e w5 ⟨rfl, hx5⟩
    rw [hs]
    go_wp2_with fail
    refine (q_ext (iSplitOk_any A1 c1 D 0 _ (HM.out.ext (by repeat (first | exact Ext.refl _ | assumption | apply Ext.drewN' | apply Ext.alloc' | refine Ext.trans ?_ (by assumption)))))).mono ?_
    rintro e w6 ⟨rfl, hx6⟩
    rw [HZ.out]
    go_wp2_with fail
    refine (alive_any _).mono ?_
    rintro e w7 ⟨rfl, hx7⟩
    go_wp2
    go_ret
    exact ⟨rfl, (by repeat (first | exact Ext.refl _ | assumption | apply Ext.drewN' | apply Ext.alloc' | refine Ext.trans ?_ (by assumption)))⟩
  | true =>
    by_cases h2 : 1 < D.length
    · have h2' : (1 : Int) < (D.length : Nat) := by omega
      rw [decide_eq_true h2]
      go_wp2_with fail
      refine (q_ext (iSpaceOk_any A1 c1 D _ (HM.out.ext (by repeat (first | exact Ext.refl _ | assumption | apply Ext.drewN' | apply Ext.alloc' | refine Ext.trans ?_ (by assumption)))))).mono ?_
      rintro e w5 ⟨rfl, hx5⟩
      rw [hs]
      go_wp2_with fail
      refine (q_ext (iSplitOk_any A1 c1 D 0 _ (HM.out.ext (by repeat (first | exact Ext.refl _ | assumption | apply Ext.drewN' | apply Ext.alloc' | refine Ext.trans ?_ (by assumption)))))).mono ?_
      rintro e w6 ⟨rfl, hx6⟩
      rw [HZ.out]
      go_wp2_with fail
      refine (alive_any _).mono ?_
      rintro e w7 ⟨rfl, hx7⟩
      go_wp2
      go_ret
      exact ⟨rfl, (by repeat (first | exact Ext.refl _ | assumption | apply Ext.drewN' | apply Ext.alloc' | refine Ext.trans ?_ (by assumption)))⟩
    · have h2' : ¬ (1 : Int) < (D.length : Nat) := by omega
      rw [decide_eq_false h2]
      go_wp2_with fail
      refine (q_ext (iSpaceOk_any A1 c1 D _ (HM.out.ext (by repeat (first | exact Ext.refl _ | assumption | apply Ext.drewN' | apply Ext.alloc' | refine Ext.trans ?_ (by assumption)))))).mono ?_
      rintro e w5 ⟨rfl, hx5⟩
      rw [hs]
      go_wp2_with fail
      refine (q_ext (iSplitOk_any A1 c1 D 0 _ (HM.out.ext (by repeat (first | exact Ext.refl _ | assumption | apply Ext.drewN' | apply Ext.alloc' | refine Ext.trans ?_ (by assumption)))))).mono ?_
      rintro e w6 ⟨rfl, hx6⟩
      rw [HZ.out]
      go_wp2_with fail
      refine (alive_any _).mono ?_
      rintro e w7 ⟨rfl, hx7⟩
      go_wp2
      go_ret
      exact ⟨ret_bool (by rw [decide_eq_false (show ¬ (1 : Int) < (D.length : Nat) by omega)]; rfl), (by repeat (first | exact Ext.refl _ | assumption | apply Ext.drewN' | apply Ext.alloc' | refine Ext.trans ?_ (by assumption)))⟩
section
open Go.ChangeShapes Go.WideShapes Go.ChangeAt Go.Deep
theorem FnSplitOk_contract (H : Type) (enc : TypeId × Value → H) (W : World) (base : Nat) (args : Array Value) (ds gs : List (DataW H)) (before : List MemPlace)
    (hval : ∀ (j : Nat) t v, Try.f6.params[j]? = some t → args[j]? = some v → Value.okWide Try.prog W .any base t v)
    (hW : DataW.Whole enc Try.prog Try.f6.params.toList Rows.fnSplitOkSpec.vars false W args.toList ds gs before) :
    Calls Try.prog 6 args W fun e W' => ∃ v, e = .returned v ∧ Rows.fnSplitOkSpec.post enc Try.prog Try.f6 false true false false W args v W' := by
  have hW' := hW
  obtain ⟨p, q, hA0, hV, rfl, hfz, hnd⟩ := hW
  have hA : DataW.TrodAll enc Try.prog W 0 (fun _ => true) true Try.f6.params.toList args.toList ds p := hA0
  rw [Try.params6] at hA hval
  obtain ⟨v0, vs0, d0, ds0, p0, q0, hargs0, rfl, rfl, h0, r0⟩ := trodAll_cons hA
  obtain ⟨hargsn, rfl, rfl⟩ := trodAll_nil r0
  obtain rfl : args = #[v0] := by cases args; simp_all
  obtain ⟨rfl, rfl⟩ := trodVars_none hV
  clear hA0
  obtain ⟨A0, code, c0, rfl, M0⟩ := read_bytes (hval 0 33 v0 rfl rfl) h0
  refine (FnSplitOk_walk A0 code c0 W M0).mono fun e W' ⟨he, hx⟩ => ⟨_, he, post_law laidOut (by rw [Try.params6]; decide +kernel) rfl rfl Try.underlying4 hW' rfl hx⟩
set_option maxRecDepth 100000 in
theorem FnSplitOk_lifted (os : Os) (started : os.Started) (H : Type) (enc : TypeId × Value → H) :
    ReturnsInHanded {} Try.checked os 6 .any (Rows.fnSplitOkSpec.pre6 enc Try.prog Try.f6 Rows.fnSplitOkRow.domain false) (Rows.fnSplitOkSpec.post enc Try.prog Try.f6 false true false false) := by
  refine returnsInHanded_of_change (C := Try.checked) own started (by kernel_rfl) Try.func6
    (ChangeSpec.witness6 (enc := enc) (C := Try.checked) false ⟨#[], #[.slice none 0 0], []⟩ 8 (by kernel_rfl) (by kernel_rfl) (by kernel_rfl) (by kernel_rfl) rfl) ?_
  intro W base args ds gs before hval hW _ _
  exact FnSplitOk_contract H enc W base args ds gs before hval hW
theorem FnSplitOk_holds : Rows.FnSplitOkSaid :=
  OpenClaim.holds_of_wide 6 Try.f6 rfl rfl rfl rfl rfl rfl rfl ⟨rfl, rfl, rfl, rfl, rfl⟩ rfl rfl rfl rfl rfl (by kernel_rfl) Try.func6 (by kernel_rfl)
    (of_decide_eq_true (by kernel_rfl)) (by unfold Func.isWrapper; first | (rw [if_pos (by decide +kernel)]; kernel_rfl) | (rw [if_neg (by decide +kernel)]; exact ⟨rfl, rfl⟩))
    (fun os started H enc _ => FnSplitOk_lifted os started H enc)
end
end Go.Proofs.Ytpcjcgaplmlnlab
