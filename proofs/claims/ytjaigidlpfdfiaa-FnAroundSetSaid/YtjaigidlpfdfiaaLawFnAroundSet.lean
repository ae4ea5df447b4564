/- What is proved: the law FnAroundSet returns true for every input, and its arguments read behind the call as before. No condition. -/
import Derived.Test.YtjaigidlpfdfiaaDrSets
import Derived.Test.YtjaigidlpfdfiaaAlive
import Derived.Test.YtjaigidlpfdfiaaApart
namespace Go.Proofs.Ytjaigidlpfdfiaa
open Go.RowKit
set_option maxRecDepth 100000 in
set_option maxHeartbeats 8000000 in
theorem FnAroundSet_walk (A : Option Addr) (n c : Nat) (B : Option Addr) (n2 c2 : Nat) (w : World) (h : Byt w A n c) (h2 : Byt w B n2 c2) :
    Calls Try.prog 4 #[.slice A n c, .slice B n2 c2] w fun e w' => e = .returned (.bool true) ∧ Ext w w' := by
  by_cases hz : 1048576 < n
  · have hz' : (1048576 : Int) < (n : Nat) := by omega
    go_enter Try.func4, Try.ntmps4
    go_wp2
    go_ret
    exact ⟨rfl, (by repeat (first | exact Ext.refl _ | assumption | apply Ext.drewN' | apply Ext.alloc' | refine Ext.trans ?_ (by assumption)))⟩
  have hz' : ¬ (1048576 : Int) < (n : Nat) := by omega
  by_cases hy : 1048576 < n2
  · have hy' : (1048576 : Int) < (n2 : Nat) := by omega
    go_enter Try.func4, Try.ntmps4
    go_wp2
    go_ret
    exact ⟨rfl, (by repeat (first | exact Ext.refl _ | assumption | apply Ext.drewN' | apply Ext.alloc' | refine Ext.trans ?_ (by assumption)))⟩
  have hy' : ¬ (1048576 : Int) < (n2 : Nat) := by omega
  go_enter Try.func4, Try.ntmps4
  go_wp2_with fail
  refine (drawAroundSet_any A n c w h).mono ?_
  rintro e w1 ⟨A1, c1, D, l, f, rfl, hM, hx1⟩
  have HM := Lib.hid hM
  have hx : Ext w w1 := hx1
  clear hx1 hM
  go_wp2_with fail
  refine (q_ext (iAroundSet_any A1 c1 D l f _ (HM.out.ext (by repeat (first | exact Ext.refl _ | assumption | apply Ext.drewN' | apply Ext.alloc' | refine Ext.trans ?_ (by assumption)))))).mono ?_
  rintro e w2 ⟨rfl, hx2⟩
  go_wp2_with fail
  refine (q_ext (sAroundSet_any A1 c1 D l f _ (HM.out.ext (by repeat (first | exact Ext.refl _ | assumption | apply Ext.drewN' | apply Ext.alloc' | refine Ext.trans ?_ (by assumption)))))).mono ?_
  rintro e w3 ⟨rfl, hx3⟩
  go_wp2_with fail
  refine (drawSetsApart_any B n2 c2 w3 (h2.ext (by repeat (first | exact Ext.refl _ | assumption | apply Ext.drewN' | apply Ext.alloc' | refine Ext.trans ?_ (by assumption))))).mono ?_
  rintro e w4 ⟨A2, c4, E, a, b, rfl, hM2, hx4⟩
  have HM2 := Lib.hid hM2
  have HM4 := Lib.hid (HM.out.ext ((hx2.trans hx3).trans hx4))
  have hxa : Ext w w4 := (by repeat (first | exact Ext.refl _ | assumption | apply Ext.drewN' | apply Ext.alloc' | refine Ext.trans ?_ (by assumption)))
  clear hM2 HM hx hx2 hx3 hx4
  go_wp2_with fail
  refine (q_ext (iSetsApart_any A2 c4 E a b _ (HM2.out.ext (by repeat (first | exact Ext.refl _ | assumption | apply Ext.drewN' | apply Ext.alloc' | refine Ext.trans ?_ (by assumption)))))).mono ?_
  rintro e w5 ⟨rfl, hx5⟩
  have HAV := Lib.hid (fun x (q1 : setB D l = true) (q2 : inB x 0 60 = true) => (show arV D l x = arI D l x from if_pos ⟨q1, q2⟩))
  have HNO := Lib.hid (fun (q : ¬ (setB D l = true ∧ inB f 0 60 = true)) => (show arV D l f = -1 from if_neg q))
  have HSA := Lib.hid (fun (q : setB D l = true) => around_self q (f := f))
  have HSB := Lib.hid (fun (q : setB D l = true) => around_more q (f := f))
  have HBD := Lib.hid (fun (q : setB D l = true) => arI_bd (D := D) (l := l) (f := f) (setB_parts q).1)
  by_cases hab : setB E a = true ∧ setB E b = true
  · obtain ⟨ha, hb⟩ := hab
    have HA := Lib.hid (show apV E a b = apI E a b from if_pos ⟨ha, hb⟩)
    rw [HA.out]
    obtain ⟨p0, p60⟩ := apI_bd (D := E) (a := a) (b := b) (setB_parts ha).1
    have HC1 := Lib.hid (fun W (q : Mat W A2 c4 E) => iAroundSet_any A2 c4 E a (apI E a b) W q)
    rw [show arV E a (apI E a b) = arI E a (apI E a b) from if_pos ⟨ha, decide_eq_true ⟨p0, p60⟩⟩] at HC1
    have HC2 := Lib.hid (fun W (q : Mat W A2 c4 E) => iAroundSet_any A2 c4 E b (apI E a b) W q)
    rw [show arV E b (apI E a b) = arI E b (apI E a b) from if_pos ⟨hb, decide_eq_true ⟨p0, p60⟩⟩] at HC2
    have g1 := around_other1 ha hb
    have g2 := around_other2 ha hb
    obtain ⟨x, hxx⟩ : ∃ x, arI E a (apI E a b) = x := ⟨_, rfl⟩
    obtain ⟨y, hyy⟩ : ∃ y, arI E b (apI E a b) = y := ⟨_, rfl⟩
    rw [hxx] at g1 HC1
    rw [hyy] at g2 HC2
    obtain ⟨z, hzz⟩ : ∃ z, apI E a b = z := ⟨_, rfl⟩
    rw [hzz] at p0 p60 HC1 HC2
    rw [hzz]
    have G1 : (bits .and .i64 x b != b) = false := by rw [g1]; simp
    have G2 : (bits .and .i64 y a != a) = false := by rw [g2]; simp
    clear ha hb hxx hyy hzz HA g1 g2
    go_wp2_with fail
    refine (HC1.out _ (HM2.out.ext (by repeat (first | exact Ext.refl _ | assumption | apply Ext.drewN' | apply Ext.alloc' | refine Ext.trans ?_ (by assumption))))).mono ?_
    rintro e w6 ⟨rfl, m6, rfl⟩
    go_wp2_with fail
    refine (HC2.out _ (HM2.out.ext (by repeat (first | exact Ext.refl _ | assumption | apply Ext.drewN' | apply Ext.alloc' | refine Ext.trans ?_ (by assumption))))).mono ?_
    rintro e w8 ⟨rfl, m8, rfl⟩
    clear HC1 HC2
    by_cases hd : setB D l = true ∧ inB f 0 60 = true
    · obtain ⟨hd1, hd2⟩ := hd
      have e1 := HAV.out f hd1 hd2
      obtain ⟨f0, f60⟩ := of_decide_eq_true hd2
      obtain ⟨b0, b1⟩ := HBD.out hd1
      have hs1 := HSA.out hd1 f0
      by_cases h60 : f = 60
      · rw [e1]
        have hf60 : (f == 60) = true := by rw [h60]; rfl
        obtain ⟨x, hxx⟩ : ∃ x, arI D l f = x := ⟨_, rfl⟩
        rw [hxx] at hs1 b0 b1
        rw [hxx]
        have hs1' : (bits .and .i64 x l == l) = true := by rw [hs1]; simp
        clear e1 hd1 hd2 hxx
        go_wp2
        go_ret
        exact ⟨rfl, (by repeat (first | exact Ext.refl _ | assumption | apply Ext.drewN' | apply Ext.alloc' | refine Ext.trans ?_ (by assumption)))⟩
      · have e2 := HAV.out (f + 1) hd1 (decide_eq_true (by omega))
        have hs2 := HSB.out hd1
        have HC := Lib.hid (fun W (q : Mat W A1 c1 D) => iAroundSet_any A1 c1 D l (f + 1) W q)
        rw [e2] at HC
        rw [e1]
        have hf60 : (f == 60) = false := beq_eq_false_iff_ne.2 h60
        obtain ⟨x, hxx⟩ : ∃ x, arI D l f = x := ⟨_, rfl⟩
        obtain ⟨y, hyy⟩ : ∃ y, arI D l (f + 1) = y := ⟨_, rfl⟩
        rw [hxx] at hs1 b0 b1 hs2
        rw [hyy] at hs2 HC
        rw [hxx]
        have hs1' : (bits .and .i64 x l == l) = true := by rw [hs1]; simp
        have hs2' : (bits .and .i64 y x == x) = true := by rw [hs2]; simp
        clear e1 hd1 hd2 hxx e2 hyy
        go_wp2_with fail
        refine (HC.out _ (HM4.out.ext (by repeat (first | exact Ext.refl _ | assumption | apply Ext.drewN' | apply Ext.alloc' | refine Ext.trans ?_ (by assumption))))).mono ?_
        rintro e w9 ⟨rfl, m9, rfl⟩
        go_wp2
        go_ret
        exact ⟨rfl, (by repeat (first | exact Ext.refl _ | assumption | apply Ext.drewN' | apply Ext.alloc' | refine Ext.trans ?_ (by assumption)))⟩
    · rw [HNO.out hd]
      clear hd HNO HAV HSA HSB HBD
      go_wp2_with fail
      refine (alive_any _).mono ?_
      rintro e w7 ⟨rfl, hx7⟩
      go_wp2
      go_ret
      exact ⟨rfl, (by repeat (first | exact Ext.refl _ | assumption | apply Ext.drewN' | apply Ext.alloc' | refine Ext.trans ?_ (by assumption)))⟩
  · have HA := Lib.hid (show apV E a b = -1 from if_neg hab)
    rw [HA.out]
    clear HA hab
    by_cases hd : setB D l = true ∧ inB f 0 60 = true
    · obtain ⟨hd1, hd2⟩ := hd
      have e1 := HAV.out f hd1 hd2
      obtain ⟨f0, f60⟩ := of_decide_eq_true hd2
      obtain ⟨b0, b1⟩ := HBD.out hd1
      have hs1 := HSA.out hd1 f0
      by_cases h60 : f = 60
      · rw [e1]
        have hf60 : (f == 60) = true := by rw [h60]; rfl
        obtain ⟨x, hxx⟩ : ∃ x, arI D l f = x := ⟨_, rfl⟩
        rw [hxx] at hs1 b0 b1
        rw [hxx]
        have hs1' : (bits .and .i64 x l == l) = true := by rw [hs1]; simp
        clear e1 hd1 hd2 hxx
        go_wp2
        go_ret
        exact ⟨rfl, (by repeat (first | exact Ext.refl _ | assumption | apply Ext.drewN' | apply Ext.alloc' | refine Ext.trans ?_ (by assumption)))⟩
      · have e2 := HAV.out (f + 1) hd1 (decide_eq_true (by omega))
        have hs2 := HSB.out hd1
        have HC := Lib.hid (fun W (q : Mat W A1 c1 D) => iAroundSet_any A1 c1 D l (f + 1) W q)
        rw [e2] at HC
        rw [e1]
        have hf60 : (f == 60) = false := beq_eq_false_iff_ne.2 h60
        obtain ⟨x, hxx⟩ : ∃ x, arI D l f = x := ⟨_, rfl⟩
        obtain ⟨y, hyy⟩ : ∃ y, arI D l (f + 1) = y := ⟨_, rfl⟩
        rw [hxx] at hs1 b0 b1 hs2
        rw [hyy] at hs2 HC
        rw [hxx]
        have hs1' : (bits .and .i64 x l == l) = true := by rw [hs1]; simp
        have hs2' : (bits .and .i64 y x == x) = true := by rw [hs2]; simp
        clear e1 hd1 hd2 hxx e2 hyy
        go_wp2_with fail
        refine (HC.out _ (HM4.out.ext (by repeat (first | exact Ext.refl _ | assumption | apply Ext.drewN' | apply Ext.alloc' | refine Ext.trans ?_ (by assumption))))).mono ?_
        rintro e w9 ⟨rfl, m9, rfl⟩
        go_wp2
        go_ret
        exact ⟨rfl, (by repeat (first | exact Ext.refl _ | assumption | apply Ext.drewN' | apply Ext.alloc' | refine Ext.trans ?_ (by assumption)))⟩
    · rw [HNO.out hd]
      clear hd HNO HAV HSA HSB HBD
      go_wp2_with fail
      refine (alive_any _).mono ?_
      rintro e w7 ⟨rfl, hx7⟩
      go_wp2
      go_ret
      exact ⟨rfl, (by repeat (first | exact Ext.refl _ | assumption | apply Ext.drewN' | apply Ext.alloc' | refine Ext.trans ?_ (by assumption)))⟩
section
open Go.ChangeShapes Go.WideShapes Go.ChangeAt Go.Deep
set_option maxRecDepth 100000 in
theorem FnAroundSet_contract (H : Type) (enc : TypeId × Value → H) (W : World) (base : Nat) (args : Array Value) (ds gs : List (DataW H)) (before : List MemPlace)
    (hval : ∀ (j : Nat) t v, Try.f4.params[j]? = some t → args[j]? = some v → Value.okWide Try.prog W .any base t v)
    (hW : DataW.Whole enc Try.prog Try.f4.params.toList Rows.fnAroundSetSpec.vars false W args.toList ds gs before) :
    Calls Try.prog 4 args W fun e W' => ∃ v, e = .returned v ∧ Rows.fnAroundSetSpec.post enc Try.prog Try.f4 false true false false W args v W' := by
  have hW' := hW
  obtain ⟨p, q, hA0, hV, rfl, hfz, hnd⟩ := hW
  have hA : DataW.TrodAll enc Try.prog W 0 (fun _ => true) true Try.f4.params.toList args.toList ds p := hA0
  rw [Try.params4] at hA hval
  obtain ⟨v0, vs0, d0, ds0, p0, q0, hargs0, rfl, rfl, h0, r0⟩ := trodAll_cons hA
  obtain ⟨v1, vs1, d1, ds1, p1, q1, hargs1, rfl, rfl, h1, r1⟩ := trodAll_cons r0
  obtain ⟨hargsn, rfl, rfl⟩ := trodAll_nil r1
  obtain rfl : args = #[v0, v1] := by cases args; simp_all
  obtain ⟨rfl, rfl⟩ := trodVars_none hV
  clear hA0
  obtain ⟨A0, code, c0, rfl, M0⟩ := read_bytes (hval 0 22 v0 rfl rfl) h0
  obtain ⟨A1, more, c1, rfl, M1⟩ := read_bytes (hval 1 22 v1 rfl rfl) h1
  refine (FnAroundSet_walk A0 code c0 A1 more c1 W M0 M1).mono fun e W' ⟨he, hx⟩ => ⟨_, he, post_law laidOut (by rw [Try.params4]; decide +kernel) rfl rfl Try.underlying4 hW' rfl hx⟩
set_option maxRecDepth 100000 in
theorem FnAroundSet_lifted (os : Os) (started : os.Started) (H : Type) (enc : TypeId × Value → H) :
    ReturnsInHanded {} Try.checked os 4 .any (Rows.fnAroundSetSpec.pre6 enc Try.prog Try.f4 Rows.fnAroundSetRow.domain false) (Rows.fnAroundSetSpec.post enc Try.prog Try.f4 false true false false) := by
  refine returnsInHanded_of_change (C := Try.checked) own started (by kernel_rfl) Try.func4
    (ChangeSpec.witness6 (enc := enc) (C := Try.checked) false ⟨#[], #[.slice none 0 0, .slice none 0 0], []⟩ 8 (by kernel_rfl) (by kernel_rfl) (by kernel_rfl) (by kernel_rfl) rfl) ?_
  intro W base args ds gs before hval hW _ _
  exact FnAroundSet_contract H enc W base args ds gs before hval hW
theorem FnAroundSet_holds : Rows.FnAroundSetSaid :=
  OpenClaim.holds_of_wide 4 Try.f4 rfl rfl rfl rfl rfl rfl rfl ⟨rfl, rfl, rfl, rfl, rfl⟩ rfl rfl rfl rfl rfl (by kernel_rfl) Try.func4 (by kernel_rfl)
    (of_decide_eq_true (by kernel_rfl)) (by unfold Func.isWrapper; first | (rw [if_pos (by decide +kernel)]; kernel_rfl) | (rw [if_neg (by decide +kernel)]; exact ⟨rfl, rfl⟩))
    (fun os started H enc _ => FnAroundSet_lifted os started H enc)
end
end Go.Proofs.Ytjaigidlpfdfiaa
