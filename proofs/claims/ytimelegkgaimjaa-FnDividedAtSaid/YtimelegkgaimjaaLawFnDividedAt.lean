/- What is proved: the law FnDividedAt returns true for every input, and its argument reads behind the call as before. No condition. -/
import Derived.Test.YtimelegkgaimjaaDrPair
import Derived.Test.YtimelegkgaimjaaLawFnAllDivided
namespace Go.Proofs.Ytimelegkgaimjaa
open Go.RowKit
theorem divV_two {D : List (List Int)} (hs : spB D = true) {a b : Nat} (ha : a < D.length) (hb : b < D.length) : divV D (a : Int) (b : Int) = divL (splD D) a b ∧ divV D (b : Int) (a : Int) = divL (splD D) a b := by
  have p : ∀ k, k < D.length → pointB D (k : Int) = true := fun k hk => by unfold pointB; rw [hs, decide_eq_true (by omega)]; rfl
  unfold divV
  rw [if_pos ⟨p a ha, p b hb⟩, if_pos ⟨p b hb, p a ha⟩, divL_sym (splD D) (Int.toNat (b : Int))]
  simp
set_option maxRecDepth 100000 in
set_option maxHeartbeats 4000000 in
theorem FnDividedAt_walk (A : Option Addr) (n c : Nat) (w : World) (h : Byt w A n c) :
    Calls Try.prog 7 #[.slice A n c] w fun e w' => e = .returned (.bool true) ∧ Ext w w' := by
  by_cases hz : 1048576 < n
  · have hz' : (1048576 : Int) < (n : Nat) := by omega
    go_enter Try.func7, Try.ntmps7
    go_wp2
    go_ret
    exact ⟨rfl, (by repeat (first | exact Ext.refl _ | assumption | apply Ext.drewN' | apply Ext.alloc' | refine Ext.trans ?_ (by assumption)))⟩
  have hz' : ¬ (1048576 : Int) < (n : Nat) := by omega
  go_enter Try.func7, Try.ntmps7
  go_wp2_with fail
  refine (drawDividedAt_any A n c w h).mono ?_
  rintro e w1 ⟨A1, c1, D, p, q, rfl, hM, hx1⟩
  have HM := Lib.hid hM
  have hx : Ext w w1 := hx1
  go_wp2_with fail
  refine (iDividedAt_any A1 c1 D p q _ (HM.out.ext (by repeat (first | exact Ext.refl _ | assumption | apply Ext.drewN' | apply Ext.alloc' | refine Ext.trans ?_ (by assumption))))).mono ?_
  rintro e w2 ⟨rfl, hx2⟩
  go_wp2_with fail
  refine (sDividedAt_any A1 c1 D p q _ (HM.out.ext (by repeat (first | exact Ext.refl _ | assumption | apply Ext.drewN' | apply Ext.alloc' | refine Ext.trans ?_ (by assumption))))).mono ?_
  rintro e w3 ⟨rfl, hx3⟩
  by_cases hq : pointB D p = true ∧ pointB D q = true
  · obtain ⟨hp1, hp2⟩ := hq
    obtain ⟨hs, a, rfl, ha⟩ := pointB_parts hp1
    obtain ⟨-, b, rfl, hb⟩ := pointB_parts hp2
    obtain ⟨⟨hn1, hn6⟩, hsq, hcells⟩ := farB_parts (spB_far hs)
    obtain ⟨bk, o, rc, rb, ro, hA, hrow, hlen, hcell, -⟩ := (hM.ext (hx2.trans hx3)).square hsq
    obtain rfl := hA (by omega)
    have HROW := Lib.hid (hrow a ha)
    have hlenA := (hlen a ha).1
    have HCE := Lib.hid (hcell a ha b hb)
    obtain ⟨b0, b60, -, -⟩ := hcells a ha b hb
    obtain ⟨e1, e2⟩ := divV_two hs ha hb
    have hle := div_le hs (spB_tri4 hs) ha hb
    have hnn := (div_ge hs a b).1
    have HTR := Lib.hid (fun t => div_tree hs (spB_tri4 hs) (tree_four (D := D) t) ha hb)
    have HK := Lib.hid (fun W (q1 : Mat W (some ⟨bk, o, none⟩) c1 D) => iDividedAt_any (some ⟨bk, o, none⟩) c1 D (b : Int) (a : Int) W q1)
    rw [e2] at HK
    rw [e1]
    obtain ⟨N, hN⟩ : ∃ N, divL (splD D) a b = N := ⟨_, rfl⟩
    rw [hN] at hle hnn HTR HK
    rw [hN]
    obtain ⟨d, hd⟩ : ∃ d, at2 D a b = d := ⟨_, rfl⟩
    rw [hd] at hle HTR HCE b0 b60
    have ha' : (a : Int) < (D.length : Nat) := by omega
    have hb' : (b : Int) < (D.length : Nat) := by omega
    have HM3 := Lib.hid (HM.out.ext (hx2.trans hx3))
    have hxa : Ext w w3 := (by repeat (first | exact Ext.refl _ | assumption | apply Ext.drewN' | apply Ext.alloc' | refine Ext.trans ?_ (by assumption)))
    clear hM hrow hlen hcell hcells hsq hA hs hp1 hp2 e1 e2 hN hd hx1 hx hx2 hx3 HM
    cases ht : treeB D with
    | false =>
      have HTK := Lib.hid (fun W (q1 : Mat W (some ⟨bk, o, none⟩) c1 D) => iTreeOk_any (some ⟨bk, o, none⟩) c1 D W q1)
      rw [ht] at HTK
      have r1 := HROW.out
      have c1' := HCE.out
      clear HTR ht
      go_wp2_with fail
      refine (HTK.out _ (HM3.out.ext (by repeat (first | exact Ext.refl _ | assumption | apply Ext.drewN' | apply Ext.alloc' | refine Ext.trans ?_ (by assumption))))).mono ?_
      rintro e w5 ⟨rfl, hx5⟩
      go_wp2_with fail
      refine (HK.out _ (HM3.out.ext (by repeat (first | exact Ext.refl _ | assumption | apply Ext.drewN' | apply Ext.alloc' | refine Ext.trans ?_ (by assumption))))).mono ?_
      rintro e w6 ⟨rfl, hx6⟩
      go_wp2_with fail
      refine (alive_any _).mono ?_
      rintro e w7 ⟨rfl, hx7⟩
      go_wp2
      go_ret
      exact ⟨rfl, hxa.trans (by repeat (first | exact Ext.refl _ | assumption | apply Ext.drewN' | apply Ext.alloc' | refine Ext.trans ?_ (by assumption)))⟩
    | true =>
      have HTK := Lib.hid (fun W (q1 : Mat W (some ⟨bk, o, none⟩) c1 D) => iTreeOk_any (some ⟨bk, o, none⟩) c1 D W q1)
      rw [ht] at HTK
      have heq := HTR.out ht
      subst heq
      have r1 := HROW.out
      have c1' := HCE.out
      clear HTR ht
      go_wp2_with fail
      refine (HTK.out _ (HM3.out.ext (by repeat (first | exact Ext.refl _ | assumption | apply Ext.drewN' | apply Ext.alloc' | refine Ext.trans ?_ (by assumption))))).mono ?_
      rintro e w5 ⟨rfl, hx5⟩
      have r2 := hx5.cell HROW.out
      have c2 := hx5.cell HCE.out
      go_wp2_with fail
      refine (HK.out _ (HM3.out.ext (by repeat (first | exact Ext.refl _ | assumption | apply Ext.drewN' | apply Ext.alloc' | refine Ext.trans ?_ (by assumption))))).mono ?_
      rintro e w6 ⟨rfl, hx6⟩
      go_wp2_with fail
      refine (alive_any _).mono ?_
      rintro e w7 ⟨rfl, hx7⟩
      go_wp2
      go_ret
      exact ⟨rfl, hxa.trans (by repeat (first | exact Ext.refl _ | assumption | apply Ext.drewN' | apply Ext.alloc' | refine Ext.trans ?_ (by assumption)))⟩
  · have hv : divV D p q = -1 := if_neg hq
    rw [hv]
    clear hM hx1 hq hv
    go_wp2_with fail
    refine (alive_any _).mono ?_
    rintro e w4 ⟨rfl, hx4⟩
    go_wp2
    go_ret
    exact ⟨rfl, (by repeat (first | exact Ext.refl _ | assumption | apply Ext.drewN' | apply Ext.alloc' | refine Ext.trans ?_ (by assumption)))⟩
section
open Go.ChangeShapes Go.WideShapes Go.ChangeAt Go.Deep
set_option maxRecDepth 100000 in
theorem FnDividedAt_contract (H : Type) (enc : TypeId × Value → H) (W : World) (base : Nat) (args : Array Value) (ds gs : List (DataW H)) (before : List MemPlace)
    (hval : ∀ (j : Nat) t v, Try.f7.params[j]? = some t → args[j]? = some v → Value.okWide Try.prog W .any base t v)
    (hW : DataW.Whole enc Try.prog Try.f7.params.toList Rows.fnDividedAtSpec.vars false W args.toList ds gs before) :
    Calls Try.prog 7 args W fun e W' => ∃ v, e = .returned v ∧ Rows.fnDividedAtSpec.post enc Try.prog Try.f7 false true false false W args v W' := by
  have hW' := hW
  obtain ⟨p, q, hA0, hV, rfl, hfz, hnd⟩ := hW
  have hA : DataW.TrodAll enc Try.prog W 0 (fun _ => true) true Try.f7.params.toList args.toList ds p := hA0
  rw [Try.params7] at hA hval
  obtain ⟨v0, vs0, d0, ds0, p0, q0, hargs0, rfl, rfl, h0, r0⟩ := trodAll_cons hA
  obtain ⟨hargsn, rfl, rfl⟩ := trodAll_nil r0
  obtain rfl : args = #[v0] := by cases args; simp_all
  obtain ⟨rfl, rfl⟩ := trodVars_none hV
  clear hA0
  obtain ⟨A0, code, c0, rfl, M0⟩ := read_bytes (hval 0 22 v0 rfl rfl) h0
  refine (FnDividedAt_walk A0 code c0 W M0).mono fun e W' ⟨he, hx⟩ => ⟨_, he, post_law laidOut (by rw [Try.params7]; decide +kernel) rfl rfl Try.underlying4 hW' rfl hx⟩
set_option maxRecDepth 100000 in
theorem FnDividedAt_lifted (os : Os) (started : os.Started) (H : Type) (enc : TypeId × Value → H) :
    ReturnsInHanded {} Try.checked os 7 .any (Rows.fnDividedAtSpec.pre6 enc Try.prog Try.f7 Rows.fnDividedAtRow.domain false) (Rows.fnDividedAtSpec.post enc Try.prog Try.f7 false true false false) := by
  refine returnsInHanded_of_change (C := Try.checked) own started (by kernel_rfl) Try.func7
    (ChangeSpec.witness6 (enc := enc) (C := Try.checked) false ⟨#[], #[.slice none 0 0], []⟩ 8 (by kernel_rfl) (by kernel_rfl) (by kernel_rfl) (by kernel_rfl) rfl) ?_
  intro W base args ds gs before hval hW _ _
  exact FnDividedAt_contract H enc W base args ds gs before hval hW
theorem FnDividedAt_holds : Rows.FnDividedAtSaid :=
  OpenClaim.holds_of_wide 7 Try.f7 rfl rfl rfl rfl rfl rfl rfl ⟨rfl, rfl, rfl, rfl, rfl⟩ rfl rfl rfl rfl rfl (by kernel_rfl) Try.func7 (by kernel_rfl)
    (of_decide_eq_true (by kernel_rfl)) (by unfold Func.isWrapper; first | (rw [if_pos (by decide +kernel)]; kernel_rfl) | (rw [if_neg (by decide +kernel)]; exact ⟨rfl, rfl⟩))
    (fun os started H enc _ => FnDividedAt_lifted os started H enc)
end
end Go.Proofs.Ytimelegkgaimjaa
