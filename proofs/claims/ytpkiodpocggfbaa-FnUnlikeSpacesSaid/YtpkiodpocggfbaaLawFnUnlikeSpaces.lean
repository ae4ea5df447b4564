/- What is proved: the law FnUnlikeSpaces returns true for every input, and its argument reads behind the call as before. No condition. -/
import Derived.Test.YtpkiodpocggfbaaDrUns2
import Derived.Test.YtpkiodpocggfbaaSame
import Derived.Test.YtpkiodpocggfbaaUnsS
import Derived.Test.YtpkiodpocggfbaaUnsO
import Derived.Test.YtpkiodpocggfbaaUnsR
import Derived.Test.YtpkiodpocggfbaaAlive
namespace Go.Proofs.Ytpkiodpocggfbaa
open Go.RowKit
theorem unsV_neg {D E : List (List Int)} (h : unsV D E < 0) : unsV D E = -1 := by
  by_cases q : spB D = true ∧ spB E = true ∧ D.length ≤ 3 ∧ E.length ≤ 3
  · have := (unsV_wid q.1 q.2.1 q.2.2.1 q.2.2.2).1
    omega
  · exact if_neg q
theorem unsV_in {D E : List (List Int)} (h : ¬ unsV D E < 0) : spB D = true ∧ spB E = true ∧ D.length ≤ 3 ∧ E.length ≤ 3 := by
  refine Classical.byContradiction fun q => h ?_
  rw [show unsV D E = -1 from if_neg q]
  decide
theorem same_uns {D E : List (List Int)} (hs : spB D = true) (ht : spB E = true) (h3 : D.length ≤ 3) (k3 : E.length ≤ 3) : sameV D E = (unsV D E == 0) := by
  have n1 := (spB_len hs).1
  rw [Bool.eq_iff_iff, beq_iff_eq, zero_ord hs ht h3 k3]
  constructor
  · intro h
    have q := Classical.byContradiction fun q => absurd ((sameV_no (D := D) (E := E) q).symm.trans h) (by decide)
    obtain ⟨-, -, hl, -, i, hi, e⟩ := q
    exact ⟨hl, _, by rw [← ordK_three _ n1 h3, row_of hi]; exact List.getElem_mem _, e⟩
  · rintro ⟨hl, o, ho, e⟩
    rw [← ordK_three _ n1 h3] at ho
    obtain ⟨i, hi, rfl⟩ := List.mem_iff_getElem.1 ho
    exact sameV_yes ⟨hs, ht, hl, by omega, i, hi, by rw [row_of hi]; exact e⟩
set_option maxRecDepth 100000 in
set_option maxHeartbeats 8000000 in
theorem FnUnlikeSpaces_walk (A : Option Addr) (n c : Nat) (w : World) (h : Byt w A n c) :
    Calls Try.prog 3 #[.slice A n c] w fun e w' => e = .returned (.bool true) ∧ Ext w w' := by
  by_cases hz : 1048576 < n
  · have hz' : (1048576 : Int) < (n : Nat) := by omega
    go_enter Try.func3, Try.ntmps3
    go_wp2
    go_ret
    exact ⟨rfl, (by repeat (first | exact Ext.refl _ | assumption | apply Ext.drewN' | apply Ext.alloc' | refine Ext.trans ?_ (by assumption)))⟩
  have hz' : ¬ (1048576 : Int) < (n : Nat) := by omega
  go_enter Try.func3, Try.ntmps3
  go_wp2_with fail
  refine (drawUnlikeSpaces_any A n c w h).mono ?_
  rintro e w1 ⟨A1, c1, D, A2, c2, E, rfl, hM1, hM2, hx1⟩
  have HM1 := Lib.hid hM1
  have HM2 := Lib.hid hM2
  have hx : Ext w w1 := hx1
  clear hx1 hM1 hM2
  go_wp2_with fail
  refine (iUnlikeSpaces_any A1 c1 D A2 c2 E _ HM1.out HM2.out).mono ?_
  rintro e w2 ⟨rfl, hx2⟩
  go_wp2_with fail
  refine (sUnlikeSpaces_any A1 c1 D A2 c2 E _ (HM1.out.ext hx2) (HM2.out.ext hx2)).mono ?_
  rintro e w3 ⟨rfl, hx3⟩
  by_cases hneg : unsV D E < 0
  · rw [unsV_neg hneg]
    clear hneg
    go_wp2_with fail
    refine (alive_any _).mono ?_
    rintro e w7 ⟨rfl, hx7⟩
    go_wp2
    go_ret
    exact ⟨rfl, ((hx.trans hx2).trans hx3).trans hx7⟩
  · obtain ⟨hs, ht, h3, k3⟩ := unsV_in hneg
    have HSM := Lib.hid (same_uns hs ht h3 k3)
    have HEX := Lib.hid (unsV_ex D E)
    obtain ⟨u0, u1⟩ := unsV_wid hs ht h3 k3
    obtain ⟨W0, W60⟩ := wid_bd hs
    obtain ⟨Y0, Y60⟩ := wid_bd ht
    have HWD := Lib.hid (fun W (q : Mat W A1 c1 D) => iWidthOf_any A1 c1 D W q hs)
    have HWE := Lib.hid (fun W (q : Mat W A2 c2 E) => iWidthOf_any A2 c2 E W q ht)
    have HS := Lib.hid (fun W (q1 : Mat W A1 c1 D) (q2 : Mat W A2 c2 E) => iSameSpace_any A1 c1 D A2 c2 E W q1 q2)
    have HU := Lib.hid (fun W (q1 : Mat W A1 c1 D) (q2 : Mat W A2 c2 E) => iUnlikeSpaces_any A2 c2 E A1 c1 D W q2 q1)
    rw [HSM.out] at HS
    rw [HEX.out] at HU
    obtain ⟨U, hU⟩ : ∃ U, unsV D E = U := ⟨_, rfl⟩
    rw [hU] at u0 u1 hneg HS HU
    rw [hU]
    obtain ⟨X, hX⟩ : ∃ X, widI D = X := ⟨_, rfl⟩
    obtain ⟨Y, hY⟩ : ∃ Y, widI E = Y := ⟨_, rfl⟩
    rw [hX] at W0 W60 u1 HWD
    rw [hY] at Y0 Y60 u1 HWE
    have HXX := Lib.hid ((hx.trans hx2).trans hx3)
    have HMA := Lib.hid ((HM1.out.ext hx2).ext hx3)
    have HMB := Lib.hid ((HM2.out.ext hx2).ext hx3)
    clear hs ht hU hX hY HM1 HM2 hx hx2 hx3 HSM HEX
    go_wp2_with fail
    refine (HS.out _ (HMA.out.ext (by repeat (first | exact Ext.refl _ | assumption | apply Ext.drewN' | apply Ext.alloc' | refine Ext.trans ?_ (by assumption)))) (HMB.out.ext (by repeat (first | exact Ext.refl _ | assumption | apply Ext.drewN' | apply Ext.alloc' | refine Ext.trans ?_ (by assumption))))).mono ?_
    rintro e w4 ⟨⟨v, rfl⟩, hx4⟩
    have HS' := HS
    clear HS
    go_wp2_with fail
    refine (HU.out _ (HMA.out.ext (by repeat (first | exact Ext.refl _ | assumption | apply Ext.drewN' | apply Ext.alloc' | refine Ext.trans ?_ (by assumption)))) (HMB.out.ext (by repeat (first | exact Ext.refl _ | assumption | apply Ext.drewN' | apply Ext.alloc' | refine Ext.trans ?_ (by assumption))))).mono ?_
    rintro e w5 ⟨rfl, hx5⟩
    go_wp2_with fail
    refine (HWD.out _ (HMA.out.ext (by repeat (first | exact Ext.refl _ | assumption | apply Ext.drewN' | apply Ext.alloc' | refine Ext.trans ?_ (by assumption))))).mono ?_
    rintro e w6 ⟨rfl, m6, rfl⟩
    go_wp2_with fail
    refine (HWE.out _ (HMB.out.ext (by repeat (first | exact Ext.refl _ | assumption | apply Ext.drewN' | apply Ext.alloc' | refine Ext.trans ?_ (by assumption))))).mono ?_
    rintro e w7 ⟨rfl, m7, rfl⟩
    go_wp2
    go_ret
    exact ⟨rfl, HXX.out.trans (by repeat (first | exact Ext.refl _ | assumption | apply Ext.drewN' | apply Ext.alloc' | refine Ext.trans ?_ (by assumption)))⟩
section
open Go.ChangeShapes Go.WideShapes Go.ChangeAt Go.Deep
set_option maxRecDepth 100000 in
theorem FnUnlikeSpaces_contract (H : Type) (enc : TypeId × Value → H) (W : World) (base : Nat) (args : Array Value) (ds gs : List (DataW H)) (before : List MemPlace)
    (hval : ∀ (j : Nat) t v, Try.f3.params[j]? = some t → args[j]? = some v → Value.okWide Try.prog W .any base t v)
    (hW : DataW.Whole enc Try.prog Try.f3.params.toList Rows.fnUnlikeSpacesSpec.vars false W args.toList ds gs before) :
    Calls Try.prog 3 args W fun e W' => ∃ v, e = .returned v ∧ Rows.fnUnlikeSpacesSpec.post enc Try.prog Try.f3 false true false false W args v W' := by
  have hW' := hW
  obtain ⟨p, q, hA0, hV, rfl, hfz, hnd⟩ := hW
  have hA : DataW.TrodAll enc Try.prog W 0 (fun _ => true) true Try.f3.params.toList args.toList ds p := hA0
  rw [Try.params3] at hA hval
  obtain ⟨v0, vs0, d0, ds0, p0, q0, hargs0, rfl, rfl, h0, r0⟩ := trodAll_cons hA
  obtain ⟨hargsn, rfl, rfl⟩ := trodAll_nil r0
  obtain rfl : args = #[v0] := by cases args; simp_all
  obtain ⟨rfl, rfl⟩ := trodVars_none hV
  clear hA0
  obtain ⟨A0, code, c0, rfl, M0⟩ := read_bytes (hval 0 22 v0 rfl rfl) h0
  refine (FnUnlikeSpaces_walk A0 code c0 W M0).mono fun e W' ⟨he, hx⟩ => ⟨_, he, post_law laidOut (by rw [Try.params3]; decide +kernel) rfl rfl Try.underlying4 hW' rfl hx⟩
set_option maxRecDepth 100000 in
theorem FnUnlikeSpaces_lifted (os : Os) (started : os.Started) (H : Type) (enc : TypeId × Value → H) :
    ReturnsInHanded {} Try.checked os 3 .any (Rows.fnUnlikeSpacesSpec.pre6 enc Try.prog Try.f3 Rows.fnUnlikeSpacesRow.domain false) (Rows.fnUnlikeSpacesSpec.post enc Try.prog Try.f3 false true false false) := by
  refine returnsInHanded_of_change (C := Try.checked) own started (by kernel_rfl) Try.func3
    (ChangeSpec.witness6 (enc := enc) (C := Try.checked) false ⟨#[], #[.slice none 0 0], []⟩ 8 (by kernel_rfl) (by kernel_rfl) (by kernel_rfl) (by kernel_rfl) rfl) ?_
  intro W base args ds gs before hval hW _ _
  exact FnUnlikeSpaces_contract H enc W base args ds gs before hval hW
theorem FnUnlikeSpaces_holds : Rows.FnUnlikeSpacesSaid :=
  OpenClaim.holds_of_wide 3 Try.f3 rfl rfl rfl rfl rfl rfl rfl ⟨rfl, rfl, rfl, rfl, rfl⟩ rfl rfl rfl rfl rfl (by kernel_rfl) Try.func3 (by kernel_rfl)
    (of_decide_eq_true (by kernel_rfl)) (by unfold Func.isWrapper; first | (rw [if_pos (by decide +kernel)]; kernel_rfl) | (rw [if_neg (by decide +kernel)]; exact ⟨rfl, rfl⟩))
    (fun os started H enc _ => FnUnlikeSpaces_lifted os started H enc)
end
end Go.Proofs.Ytpkiodpocggfbaa
