/- What is proved: the law FnFitTogether returns true for every input, and its argument reads behind the call as before. No condition. -/
import Derived.Test.YtjaigidlpfdfiaaDrSplit
import Derived.Test.YtjaigidlpfdfiaaAlive
import Derived.Test.YtjaigidlpfdfiaaPl2
namespace Go.Proofs.Ytjaigidlpfdfiaa
open Go.RowKit
set_option maxHeartbeats 2000000 in
theorem FnFitTogether_walk (A : Option Addr) (n c : Nat) (w : World) (h : Byt w A n c) :
    Calls Try.prog 3 #[.slice A n c] w fun e w' => e = .returned (.bool true) ∧ Ext w w' := by
  by_cases hz : 1048576 < n
  · have hz' : (1048576 : Int) < (n : Nat) := by omega
    go_enter Try.func3, Try.ntmps3
    go_wp2
    go_ret
    exact ⟨rfl, (by repeat (first | exact Ext.refl _ | assumption | apply Ext.drewN' | apply Ext.alloc' | refine Ext.trans ?_ (by assumption)))⟩
  have hz' : ¬ (1048576 : Int) < (n : Nat) := by omega
  go_enter Try.func3, Try.ntmps3
  go_wp2_with fail
  refine (drawFitTogether_any A n c w h).mono ?_
  rintro e w1 ⟨A1, c1, D, a, b, rfl, hM, hx1⟩
  have HM := Lib.hid hM
  have H1 := Lib.hid (fitB_sym D b a)
  have H2 := Lib.hid (fun q => fitB_self (D := D) (a := a) q)
  have H3 := Lib.hid (fun (q : splitB D a = false) => (show fitB D a b = false by unfold fitB; rw [q]; rfl))
  clear hM
  have hx : Ext w w1 := hx1
  clear hx1
  go_wp2_with fail
  refine (q_ext (iFitTogether_any A1 c1 D a b _ (HM.out.ext (by repeat (first | exact Ext.refl _ | assumption | apply Ext.drewN' | apply Ext.alloc' | refine Ext.trans ?_ (by assumption)))))).mono ?_
  rintro e w2 ⟨rfl, hx2⟩
  go_wp2_with fail
  refine (q_ext (sFitTogether_any A1 c1 D a b _ (HM.out.ext (by repeat (first | exact Ext.refl _ | assumption | apply Ext.drewN' | apply Ext.alloc' | refine Ext.trans ?_ (by assumption)))))).mono ?_
  rintro e w3 ⟨rfl, hx3⟩
  go_wp2_with fail
  refine (q_ext (sSplitOk_any A1 c1 D a _ (HM.out.ext (by repeat (first | exact Ext.refl _ | assumption | apply Ext.drewN' | apply Ext.alloc' | refine Ext.trans ?_ (by assumption)))))).mono ?_
  rintro e w4 ⟨rfl, hx4⟩
  cases hs : splitB D a with
  | false =>
    rw [H3.out hs]
    go_wp2_with fail
    refine (alive_any _).mono ?_
    rintro e w7 ⟨rfl, hx7⟩
    go_wp2
    go_ret
    exact ⟨rfl, (by repeat (first | exact Ext.refl _ | assumption | apply Ext.drewN' | apply Ext.alloc' | refine Ext.trans ?_ (by assumption)))⟩
  | true =>
    have H4 := Lib.hid (H2.out hs).1
    have H5 := Lib.hid (H2.out hs).2
    go_wp2_with fail
    refine (q_ext (iFitTogether_any A1 c1 D b a _ (HM.out.ext (by repeat (first | exact Ext.refl _ | assumption | apply Ext.drewN' | apply Ext.alloc' | refine Ext.trans ?_ (by assumption)))))).mono ?_
    rintro e w5 ⟨rfl, hx5⟩
    rw [H1.out]
    go_wp2_with fail
    refine (q_ext (iFitTogether_any A1 c1 D a a _ (HM.out.ext (by repeat (first | exact Ext.refl _ | assumption | apply Ext.drewN' | apply Ext.alloc' | refine Ext.trans ?_ (by assumption)))))).mono ?_
    rintro e w6 ⟨rfl, hx6⟩
    rw [H4.out]
    go_wp2_with fail
    refine (q_ext (iFitTogether_any A1 c1 D a 1 _ (HM.out.ext (by repeat (first | exact Ext.refl _ | assumption | apply Ext.drewN' | apply Ext.alloc' | refine Ext.trans ?_ (by assumption)))))).mono ?_
    rintro e w7 ⟨rfl, hx7⟩
    rw [H5.out]
    go_wp2
    go_ret
    exact ⟨rfl, (by repeat (first | exact Ext.refl _ | assumption | apply Ext.drewN' | apply Ext.alloc' | refine Ext.trans ?_ (by assumption)))⟩
section
open Go.ChangeShapes Go.WideShapes Go.ChangeAt Go.Deep
set_option maxRecDepth 100000 in
theorem FnFitTogether_contract (H : Type) (enc : TypeId × Value → H) (W : World) (base : Nat) (args : Array Value) (ds gs : List (DataW H)) (before : List MemPlace)
    (hval : ∀ (j : Nat) t v, Try.f3.params[j]? = some t → args[j]? = some v → Value.okWide Try.prog W .any base t v)
    (hW : DataW.Whole enc Try.prog Try.f3.params.toList Rows.fnFitTogetherSpec.vars false W args.toList ds gs before) :
    Calls Try.prog 3 args W fun e W' => ∃ v, e = .returned v ∧ Rows.fnFitTogetherSpec.post enc Try.prog Try.f3 false true false false W args v W' := by
  have hW' := hW
  obtain ⟨p, q, hA0, hV, rfl, hfz, hnd⟩ := hW
  have hA : DataW.TrodAll enc Try.prog W 0 (fun _ => true) true Try.f3.params.toList args.toList ds p := hA0
  rw [Try.params3] at hA hval
  obtain ⟨v0, vs0, d0, ds0, p0, q0, hargs0, rfl, rfl, h0, r0⟩ := trodAll_cons hA
  obtain ⟨hargsn, rfl, rfl⟩ := trodAll_nil r0
  obtain rfl : args = #[v0] := by cases args; simp_all
  obtain ⟨rfl, rfl⟩ := trodVars_none hV
  clear hA0
  obtain ⟨A0, code, c0, rfl, M0⟩ := read_bytes (hval 0 22 v0 rfl rfl) h0
  refine (FnFitTogether_walk A0 code c0 W M0).mono fun e W' ⟨he, hx⟩ => ⟨_, he, post_law laidOut (by rw [Try.params3]; decide +kernel) rfl rfl Try.underlying4 hW' rfl hx⟩
set_option maxRecDepth 100000 in
theorem FnFitTogether_lifted (os : Os) (started : os.Started) (H : Type) (enc : TypeId × Value → H) :
    ReturnsInHanded {} Try.checked os 3 .any (Rows.fnFitTogetherSpec.pre6 enc Try.prog Try.f3 Rows.fnFitTogetherRow.domain false) (Rows.fnFitTogetherSpec.post enc Try.prog Try.f3 false true false false) := by
  refine returnsInHanded_of_change (C := Try.checked) own started (by kernel_rfl) Try.func3
    (ChangeSpec.witness6 (enc := enc) (C := Try.checked) false ⟨#[], #[.slice none 0 0], []⟩ 8 (by kernel_rfl) (by kernel_rfl) (by kernel_rfl) (by kernel_rfl) rfl) ?_
  intro W base args ds gs before hval hW _ _
  exact FnFitTogether_contract H enc W base args ds gs before hval hW
theorem FnFitTogether_holds : Rows.FnFitTogetherSaid :=
  OpenClaim.holds_of_wide 3 Try.f3 rfl rfl rfl rfl rfl rfl rfl ⟨rfl, rfl, rfl, rfl, rfl⟩ rfl rfl rfl rfl rfl (by kernel_rfl) Try.func3 (by kernel_rfl)
    (of_decide_eq_true (by kernel_rfl)) (by unfold Func.isWrapper; first | (rw [if_pos (by decide +kernel)]; kernel_rfl) | (rw [if_neg (by decide +kernel)]; exact ⟨rfl, rfl⟩))
    (fun os started H enc _ => FnFitTogether_lifted os started H enc)
end
end Go.Proofs.Ytjaigidlpfdfiaa
