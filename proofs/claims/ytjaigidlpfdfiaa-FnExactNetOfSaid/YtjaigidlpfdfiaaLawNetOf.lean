/- What is proved: the law FnExactNetOf returns true for every input, and its arguments read behind the call as before. No condition. -/
import Derived.Test.YtjaigidlpfdfiaaNet3
import Derived.Test.YtjaigidlpfdfiaaFrame
namespace Go.Proofs.Ytjaigidlpfdfiaa
open Go.RowKit
set_option maxHeartbeats 4000000 in
theorem FnExactNetOf_walk (Aq0 : Option Addr) (cq0 : Nat) (D : List (List Int)) (f : Int) (w : World) (hq0 : Mat w Aq0 cq0 D) :
    Calls Try.prog 5 #[.slice Aq0 D.length cq0, .int .i64 f] w fun e w' => e = .returned (.bool true) ∧ Ext w w' := by
  by_cases yq0 : szM D (1048576) < 0
  · go_enter Try.func5, Try.ntmps5
    go_wp2_with fail
    refine (szIntSS_any Aq0 cq0 D _ _ (hq0.ext (by repeat (first | exact Ext.refl _ | assumption | apply Ext.drewN' | apply Ext.alloc' | refine Ext.trans ?_ (by assumption)))) (by omega) (by omega)).mono ?_
    rintro e w1q0 ⟨rfl, m1q0, rfl⟩
    go_wp2
    go_ret
    exact ⟨rfl, (by repeat (first | exact Ext.refl _ | assumption | apply Ext.drewN' | apply Ext.alloc' | refine Ext.trans ?_ (by assumption)))⟩
  obtain ⟨xq0, eq0⟩ := szM_spec (D := D) (l := 1048576) (by omega)
  have bq0 : D.length ≤ 1048576 := by omega
  have rq0 : ∀ i, i < D.length → (row D i).length ≤ 1048576 := fun i hi => by have := row_le_total hi; omega
  have HRq0 := Lib.hid rq0
  clear rq0
  go_enter Try.func5, Try.ntmps5
  go_wp2_with fail
  refine (szIntSS_any Aq0 cq0 D _ _ (hq0.ext (by repeat (first | exact Ext.refl _ | assumption | apply Ext.drewN' | apply Ext.alloc' | refine Ext.trans ?_ (by assumption)))) (by omega) (by omega)).mono ?_
  rintro e w1q0 ⟨rfl, m1q0, rfl⟩
  go_wp2_with fail
  refine (toIntSS_any Aq0 cq0 D _ (hq0.ext (by repeat (first | exact Ext.refl _ | assumption | apply Ext.drewN' | apply Ext.alloc' | refine Ext.trans ?_ (by assumption)))) bq0 HRq0.out).mono ?_
  rintro e wq0a ⟨Aq0a, cq0a, Vq0a, rfl, hMq0a, hDq0a, hFq0a, hxq0a⟩
  have HMq0a := Lib.hid hMq0a
  have HDq0a := Lib.hid hDq0a
  have HFq0a := Lib.hid hFq0a
  clear hMq0a hDq0a hFq0a
  go_wp2_with fail
  refine (q_ext (sNetOf_any Aq0a cq0a D f _ (HMq0a.out.mat.ext (by repeat (first | exact Ext.refl _ | assumption | apply Ext.drewN' | apply Ext.alloc' | refine Ext.trans ?_ (by assumption)))))).mono ?_
  rintro e w3 ⟨rfl, hx3⟩
  go_wp2_with fail
  refine (toIntSS_any Aq0 cq0 D _ (hq0.ext (by repeat (first | exact Ext.refl _ | assumption | apply Ext.drewN' | apply Ext.alloc' | refine Ext.trans ?_ (by assumption)))) bq0 HRq0.out).mono ?_
  rintro e wq0b ⟨Aq0b, cq0b, Vq0b, rfl, hMq0b, hDq0b, hFq0b, hxq0b⟩
  have HMq0b := Lib.hid hMq0b
  have HDq0b := Lib.hid hDq0b
  have HFq0b := Lib.hid hFq0b
  clear hMq0b hDq0b hFq0b
  go_wp2_with fail
  refine (q_ext (iNetOf_any Aq0b cq0b D f _ (HMq0b.out.mat.ext (by repeat (first | exact Ext.refl _ | assumption | apply Ext.drewN' | apply Ext.alloc' | refine Ext.trans ?_ (by assumption)))))).mono ?_
  rintro e w5 ⟨rfl, hx5⟩
  go_wp2_with fail
  refine (toIntSS_any Aq0 cq0 D _ (hq0.ext (by repeat (first | exact Ext.refl _ | assumption | apply Ext.drewN' | apply Ext.alloc' | refine Ext.trans ?_ (by assumption)))) bq0 HRq0.out).mono ?_
  rintro e wq0c ⟨Aq0c, cq0c, Vq0c, rfl, hMq0c, hDq0c, hFq0c, hxq0c⟩
  have HMq0c := Lib.hid hMq0c
  have HDq0c := Lib.hid hDq0c
  have HFq0c := Lib.hid hFq0c
  clear hMq0c hDq0c hFq0c
  have fq0 := eqM_refl D
  go_wp2_with fail
  refine (eqIntSS_any Aq0b Aq0c cq0b cq0c D D _ (HMq0b.out.mat.ext (by repeat (first | exact Ext.refl _ | assumption | apply Ext.drewN' | apply Ext.alloc' | refine Ext.trans ?_ (by assumption)))) HMq0c.out.mat).mono ?_
  rintro e w7q0 ⟨rfl, m7q0, rfl⟩
  go_wp2
  go_ret
  exact ⟨rfl, (by repeat (first | exact Ext.refl _ | assumption | apply Ext.drewN' | apply Ext.alloc' | refine Ext.trans ?_ (by assumption)))⟩
section
open Go.ChangeShapes Go.WideShapes Go.ChangeAt Go.Deep
set_option maxRecDepth 100000 in
theorem FnExactNetOf_contract (H : Type) (enc : TypeId × Value → H) (W : World) (base : Nat) (args : Array Value) (ds gs : List (DataW H)) (before : List MemPlace)
    (hval : ∀ (j : Nat) t v, Try.f5.params[j]? = some t → args[j]? = some v → Value.okWide Try.prog W .any base t v)
    (hW : DataW.Whole enc Try.prog Try.f5.params.toList Rows.fnExactNetOfSpec.vars false W args.toList ds gs before) :
    Calls Try.prog 5 args W fun e W' => ∃ v, e = .returned v ∧ Rows.fnExactNetOfSpec.post enc Try.prog Try.f5 false true false false W args v W' := by
  have hW' := hW
  obtain ⟨p, q, hA0, hV, rfl, hfz, hnd⟩ := hW
  have hA : DataW.TrodAll enc Try.prog W 0 (fun _ => true) true Try.f5.params.toList args.toList ds p := hA0
  rw [Try.params5] at hA hval
  obtain ⟨v0, vs0, d0, ds0, p0, q0, hargs0, rfl, rfl, h0, r0⟩ := trodAll_cons hA
  obtain ⟨v1, vs1, d1, ds1, p1, q1, hargs1, rfl, rfl, h1, r1⟩ := trodAll_cons r0
  obtain ⟨hargsn, rfl, rfl⟩ := trodAll_nil r1
  obtain rfl : args = #[v0, v1] := by cases args; simp_all
  obtain ⟨rfl, rfl⟩ := trodVars_none hV
  clear hA0
  obtain ⟨A0, c0, D, rfl, M0⟩ := read_mat (hval 0 23 v0 rfl rfl) h0
  obtain ⟨f, rfl, _, _, wf1⟩ := open_int Try.underlying3 (hval 1 3 v1 rfl rfl) h1
  refine (FnExactNetOf_walk A0 c0 D f W M0).mono fun e W' ⟨he, hx⟩ => ⟨_, he, post_law laidOut (by rw [Try.params5]; decide +kernel) rfl rfl Try.underlying4 hW' rfl hx⟩
set_option maxRecDepth 100000 in
theorem FnExactNetOf_lifted (os : Os) (started : os.Started) (H : Type) (enc : TypeId × Value → H) :
    ReturnsInHanded {} Try.checked os 5 .any (Rows.fnExactNetOfSpec.pre6 enc Try.prog Try.f5 Rows.fnExactNetOfRow.domain false) (Rows.fnExactNetOfSpec.post enc Try.prog Try.f5 false true false false) := by
  refine returnsInHanded_of_change (C := Try.checked) own started (by kernel_rfl) Try.func5
    (ChangeSpec.witness6 (enc := enc) (C := Try.checked) false ⟨#[], #[.slice none 0 0, .int .i64 0], []⟩ 8 (by kernel_rfl) (by kernel_rfl) (by kernel_rfl) (by kernel_rfl) rfl) ?_
  intro W base args ds gs before hval hW _ _
  exact FnExactNetOf_contract H enc W base args ds gs before hval hW
theorem FnExactNetOf_holds : Rows.FnExactNetOfSaid :=
  OpenClaim.holds_of_wide 5 Try.f5 rfl rfl rfl rfl rfl rfl rfl ⟨rfl, rfl, rfl, rfl, rfl⟩ rfl rfl rfl rfl rfl (by kernel_rfl) Try.func5 (by kernel_rfl)
    (of_decide_eq_true (by kernel_rfl)) (by unfold Func.isWrapper; first | (rw [if_pos (by decide +kernel)]; kernel_rfl) | (rw [if_neg (by decide +kernel)]; exact ⟨rfl, rfl⟩))
    (fun os started H enc _ => FnExactNetOf_lifted os started H enc)
end
end Go.Proofs.Ytjaigidlpfdfiaa
