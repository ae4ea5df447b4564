/- What is proved: the law FnAllDivided returns true for every input, and its argument reads behind the call as before. No condition. -/
import Derived.Test.YtimelegkgaimjaaDrTree
import Derived.Test.YtimelegkgaimjaaOpen
import Derived.Test.YtimelegkgaimjaaAlive
import Derived.Test.YtimelegkgaimjaaDiv3
import Derived.Test.YtimelegkgaimjaaBD4
import Derived.Test.YtimelegkgaimjaaTree
namespace Go.Proofs.Ytimelegkgaimjaa
open Go.RowKit
set_option maxHeartbeats 1000000 in
theorem drawAllDivided_any (A : Option Addr) (n c : Nat) (w : World) (h : Byt w A n c) :
    Calls Try.prog 25 #[.slice A n c] w fun e w' => ∃ A' c' D, e = .returned (.slice A' (List.length D) c') ∧ Mat w' A' c' D ∧ Ext w w' := by
  go_enter Try.func25, Try.ntmps25
  go_wp2_with fail
  refine (open_any A n c w h).mono ?_
  rintro e w1 ⟨g, rfl, hx1, hg, hR⟩
  have HR := Lib.hid hR
  have HX := Lib.hid hx1
  clear hR hx1
  go_wp2_with fail
  refine (l20Tree_any HR.out (Nat.le_refl _) (by omega) 9 (by omega) (by omega)).mono ?_
  rintro e w2 ⟨A', c', V, D, rfl, hO, h6, hR2, hX2⟩
  have HM := Lib.hid hO.mat
  have HX3 := Lib.hid (hX2.ext HX.out hg)
  clear hO hR2 hX2
  go_wp2
  go_ret
  exact ⟨_, _, D, rfl, HM.out, HX3.out⟩
set_option maxHeartbeats 1000000 in
theorem drawSplitsOf_any (A : Option Addr) (n c : Nat) (w : World) (h : Byt w A n c) :
    Calls Try.prog 17 #[.slice A n c] w fun e w' => ∃ A' c' D, e = .returned (.slice A' (List.length D) c') ∧ Mat w' A' c' D ∧ Ext w w' := by
  go_enter Try.func17, Try.ntmps17
  go_wp2_with fail
  refine (open_any A n c w h).mono ?_
  rintro e w1 ⟨g, rfl, hx1, hg, hR⟩
  have HR := Lib.hid hR
  have HX := Lib.hid hx1
  clear hR hx1
  go_wp2_with fail
  refine (l20Tree_any HR.out (Nat.le_refl _) (by omega) 9 (by omega) (by omega)).mono ?_
  rintro e w2 ⟨A', c', V, D, rfl, hO, h6, hR2, hX2⟩
  have HM := Lib.hid hO.mat
  have HX3 := Lib.hid (hX2.ext HX.out hg)
  clear hO hR2 hX2
  go_wp2
  go_ret
  exact ⟨_, _, D, rfl, HM.out, HX3.out⟩
theorem spB_tri4 {D : List (List Int)} (h : spB D = true) : ∀ i, i < D.length → ∀ k, k < D.length → ∀ j, j < D.length → at2 D i k ≤ at2 D i j + at2 D j k := by
  unfold spB at h
  simp only [Bool.and_eq_true] at h
  have h2 := h.2
  unfold triB at h2
  exact fun i hi k hk j hj => of_decide_eq_true ((allR_all _ _).1 ((allR_all _ _).1 ((allR_all _ _).1 h2 i hi) k hk) j hj)
theorem all_tree {D : List (List Int)} (hs : spB D = true) (h : treeB D = true) : allV D = true :=
  allV_yes hs fun _ hi _ hj => div_tree hs (spB_tri4 hs) (tree_four h) hi hj
theorem all_four {D : List (List Int)} (hs : spB D = true) (h : D.length ≤ 4) : allV D = true :=
  allV_yes hs fun _ hi _ hj => div_four hs (spB_tri4 hs) h hi hj
set_option maxHeartbeats 4000000 in
theorem FnAllDivided_walk (A : Option Addr) (n c : Nat) (w : World) (h : Byt w A n c) :
    Calls Try.prog 6 #[.slice A n c] w fun e w' => e = .returned (.bool true) ∧ Ext w w' := by
  by_cases hz : 1048576 < n
  · have hz' : (1048576 : Int) < (n : Nat) := by omega
    go_enter Try.func6, Try.ntmps6
    go_wp2
    go_ret
    exact ⟨rfl, (by repeat (first | exact Ext.refl _ | assumption | apply Ext.drewN' | apply Ext.alloc' | refine Ext.trans ?_ (by assumption)))⟩
  have hz' : ¬ (1048576 : Int) < (n : Nat) := by omega
  go_enter Try.func6, Try.ntmps6
  go_wp2_with fail
  refine (drawAllDivided_any A n c w h).mono ?_
  rintro e w1 ⟨A1, c1, D, rfl, hM, hx1⟩
  have HM := Lib.hid hM
  have hx : Ext w w1 := hx1
  clear hx1 hM
  have HSP := Lib.hid (fun (q : spB D = false) => allV_sp q)
  have HT := Lib.hid (fun (q : spB D = true) (t : treeB D = true) => all_tree q t)
  have H4 := Lib.hid (fun (q : spB D = true) (t : D.length ≤ 4) => all_four q t)
  go_wp2_with fail
  refine (iAllDivided_any A1 c1 D _ (HM.out.ext (by repeat (first | exact Ext.refl _ | assumption | apply Ext.drewN' | apply Ext.alloc' | refine Ext.trans ?_ (by assumption))))).mono ?_
  rintro e w2 ⟨rfl, hx2⟩
  go_wp2_with fail
  refine (sAllDivided_any A1 c1 D _ (HM.out.ext (by repeat (first | exact Ext.refl _ | assumption | apply Ext.drewN' | apply Ext.alloc' | refine Ext.trans ?_ (by assumption))))).mono ?_
  rintro e w3 ⟨rfl, hx3⟩
  go_wp2_with fail
  refine (q_ext (SpaceOk_any A1 c1 D _ (HM.out.ext (by repeat (first | exact Ext.refl _ | assumption | apply Ext.drewN' | apply Ext.alloc' | refine Ext.trans ?_ (by assumption)))))).mono ?_
  rintro e w4 ⟨rfl, hx4⟩
  cases hs : spB D with
  | false =>
    rw [HSP.out hs]
    clear hs HSP HT H4
    go_wp2_with fail
    refine (alive_any _).mono ?_
    rintro e w7 ⟨rfl, hx7⟩
    go_wp2
    go_ret
    exact ⟨rfl, (by repeat (first | exact Ext.refl _ | assumption | apply Ext.drewN' | apply Ext.alloc' | refine Ext.trans ?_ (by assumption)))⟩
  | true =>
    cases ha : allV D with
    | true =>
      clear hs HSP HT H4 ha
      go_wp2_with fail
      refine (iTreeOk_any A1 c1 D _ (HM.out.ext (by repeat (first | exact Ext.refl _ | assumption | apply Ext.drewN' | apply Ext.alloc' | refine Ext.trans ?_ (by assumption))))).mono ?_
      rintro e w5 ⟨rfl, hx5⟩
      cases ht : treeB D with
      | true =>
        by_cases h4 : 4 < D.length
        · have h4' : (4 : Int) < (D.length : Nat) := by omega
          go_wp2
          go_ret
          exact ⟨rfl, (by repeat (first | exact Ext.refl _ | assumption | apply Ext.drewN' | apply Ext.alloc' | refine Ext.trans ?_ (by assumption)))⟩
        · have h4' : ¬ (4 : Int) < (D.length : Nat) := by omega
          go_wp2
          go_ret
          exact ⟨rfl, (by repeat (first | exact Ext.refl _ | assumption | apply Ext.drewN' | apply Ext.alloc' | refine Ext.trans ?_ (by assumption)))⟩
      | false =>
        by_cases h4 : 4 < D.length
        · have h4' : (4 : Int) < (D.length : Nat) := by omega
          go_wp2
          go_ret
          exact ⟨rfl, (by repeat (first | exact Ext.refl _ | assumption | apply Ext.drewN' | apply Ext.alloc' | refine Ext.trans ?_ (by assumption)))⟩
        · have h4' : ¬ (4 : Int) < (D.length : Nat) := by omega
          go_wp2
          go_ret
          exact ⟨rfl, (by repeat (first | exact Ext.refl _ | assumption | apply Ext.drewN' | apply Ext.alloc' | refine Ext.trans ?_ (by assumption)))⟩
    | false =>
      have ht : treeB D = false := by
        cases e : treeB D with
        | false => rfl
        | true => rw [HT.out hs e] at ha; cases ha
      have h4 : 4 < D.length := by
        refine Classical.byContradiction fun q => ?_
        rw [H4.out hs (by omega)] at ha
        cases ha
      have h4' : (4 : Int) < (D.length : Nat) := by omega
      clear hs HSP HT H4 ha h4
      go_wp2_with fail
      refine (iTreeOk_any A1 c1 D _ (HM.out.ext (by repeat (first | exact Ext.refl _ | assumption | apply Ext.drewN' | apply Ext.alloc' | refine Ext.trans ?_ (by assumption))))).mono ?_
      rintro e w5 ⟨rfl, hx5⟩
      rw [ht]
      go_wp2
      go_ret
      exact ⟨rfl, (by repeat (first | exact Ext.refl _ | assumption | apply Ext.drewN' | apply Ext.alloc' | refine Ext.trans ?_ (by assumption)))⟩
section
open Go.ChangeShapes Go.WideShapes Go.ChangeAt Go.Deep
set_option maxRecDepth 100000 in
theorem FnAllDivided_contract (H : Type) (enc : TypeId × Value → H) (W : World) (base : Nat) (args : Array Value) (ds gs : List (DataW H)) (before : List MemPlace)
    (hval : ∀ (j : Nat) t v, Try.f6.params[j]? = some t → args[j]? = some v → Value.okWide Try.prog W .any base t v)
    (hW : DataW.Whole enc Try.prog Try.f6.params.toList Rows.fnAllDividedSpec.vars false W args.toList ds gs before) :
    Calls Try.prog 6 args W fun e W' => ∃ v, e = .returned v ∧ Rows.fnAllDividedSpec.post enc Try.prog Try.f6 false true false false W args v W' := by
  have hW' := hW
  obtain ⟨p, q, hA0, hV, rfl, hfz, hnd⟩ := hW
  have hA : DataW.TrodAll enc Try.prog W 0 (fun _ => true) true Try.f6.params.toList args.toList ds p := hA0
  rw [Try.params6] at hA hval
  obtain ⟨v0, vs0, d0, ds0, p0, q0, hargs0, rfl, rfl, h0, r0⟩ := trodAll_cons hA
  obtain ⟨hargsn, rfl, rfl⟩ := trodAll_nil r0
  obtain rfl : args = #[v0] := by cases args; simp_all
  obtain ⟨rfl, rfl⟩ := trodVars_none hV
  clear hA0
  obtain ⟨A0, code, c0, rfl, M0⟩ := read_bytes (hval 0 22 v0 rfl rfl) h0
  refine (FnAllDivided_walk A0 code c0 W M0).mono fun e W' ⟨he, hx⟩ => ⟨_, he, post_law laidOut (by rw [Try.params6]; decide +kernel) rfl rfl Try.underlying4 hW' rfl hx⟩
set_option maxRecDepth 100000 in
theorem FnAllDivided_lifted (os : Os) (started : os.Started) (H : Type) (enc : TypeId × Value → H) :
    ReturnsInHanded {} Try.checked os 6 .any (Rows.fnAllDividedSpec.pre6 enc Try.prog Try.f6 Rows.fnAllDividedRow.domain false) (Rows.fnAllDividedSpec.post enc Try.prog Try.f6 false true false false) := by
  refine returnsInHanded_of_change (C := Try.checked) own started (by kernel_rfl) Try.func6
    (ChangeSpec.witness6 (enc := enc) (C := Try.checked) false ⟨#[], #[.slice none 0 0], []⟩ 8 (by kernel_rfl) (by kernel_rfl) (by kernel_rfl) (by kernel_rfl) rfl) ?_
  intro W base args ds gs before hval hW _ _
  exact FnAllDivided_contract H enc W base args ds gs before hval hW
theorem FnAllDivided_holds : Rows.FnAllDividedSaid :=
  OpenClaim.holds_of_wide 6 Try.f6 rfl rfl rfl rfl rfl rfl rfl ⟨rfl, rfl, rfl, rfl, rfl⟩ rfl rfl rfl rfl rfl (by kernel_rfl) Try.func6 (by kernel_rfl)
    (of_decide_eq_true (by kernel_rfl)) (by unfold Func.isWrapper; first | (rw [if_pos (by decide +kernel)]; kernel_rfl) | (rw [if_neg (by decide +kernel)]; exact ⟨rfl, rfl⟩))
    (fun os started H enc _ => FnAllDivided_lifted os started H enc)
end
end Go.Proofs.Ytimelegkgaimjaa
