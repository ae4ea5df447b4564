/- What is proved: the law FnExactMiddlesOf returns true for every input, and its arguments read behind the call as before. No condition. -/
import Derived.Test.YtpfbnaachibbfaaMid3
import Derived.Test.YtpfbnaachibbfaaFrame
namespace Go.Proofs.Ytpfbnaachibbfaa
open Go.RowKit
set_option maxRecDepth 100000 in
set_option maxHeartbeats 8000000 in
theorem FnExactMiddlesOf_walk (Aq0 : Option Addr) (cq0 : Nat) (D : List (List Int)) (a : Int) (b : Int) (c : Int) (w : World) (hq0 : Mat w Aq0 cq0 D) :
    Calls Try.prog 5 #[.slice Aq0 D.length cq0, .int .i64 a, .int .i64 b, .int .i64 c] w fun e w' => e = .returned (.bool true) ∧ Ext w w' := by
  by_cases yq0 : szM D (1048576) < 0
  · go_enter Try.func5, Try.ntmps5
    go_wp2_with fail
    refine (szIntSS_any Aq0 cq0 D _ _ (hq0.ext (by repeat (first | exact Ext.refl _ | assumption | apply Ext.drewN' | apply Ext.alloc' | refine Ext.trans ?_ (by assumption)))) (by omega) (by omega)).mono ?_
    rintro e w1q0 ⟨rfl, m1q0, rfl⟩
    go_wp2
    go_ret
    exact ⟨rfl, (by repeat (first | exact Ext.refl _ | assumption | apply Ext.drewN' | apply Ext.alloc' | refine Ext.trans ?_ (by assumption)))⟩
  obtain ⟨xq0, eq0⟩ := szM_spec (D := D) (l := 1048576) (by omega)
  have bq0 : D.length ≤ 1048576 := by omega
  have tq0 : total D ≤ 1048576 := by omega
  have rq0 : ∀ i, i < D.length → (row D i).length ≤ 1048576 := fun i hi => by have := row_le_total hi; omega
  have HRq0 := Lib.hid rq0
  clear rq0
  have vl := midsV_len D a b c
  go_enter Try.func5, Try.ntmps5
  go_wp2_with fail
  refine (q_ext (szIntSS_any Aq0 cq0 D _ _ (hq0.ext (by repeat (first | exact Ext.refl _ | assumption | apply Ext.drewN' | apply Ext.alloc' | refine Ext.trans ?_ (by assumption)))) (by omega) (by omega))).mono ?_
  rintro e w1q0 ⟨rfl, hxw1q0⟩
  have szw1q0 := hxw1q0.size
  go_wp2_with fail
  refine (toIntSS_any Aq0 cq0 D _ (hq0.ext (by repeat (first | exact Ext.refl _ | assumption | apply Ext.drewN' | apply Ext.alloc' | refine Ext.trans ?_ (by assumption)))) bq0 HRq0.out).mono ?_
  rintro e wq0a ⟨Aq0a, cq0a, Vq0a, rfl, hMq0a, hDq0a, hFq0a, hxq0a⟩
  have HMq0a := Lib.hid hMq0a
  have HDq0a := Lib.hid hDq0a
  have HFq0a := Lib.hid hFq0a
  clear hMq0a hDq0a hFq0a
  have szq0a := hxq0a.size
  go_wp2_with fail
  refine (sMiddles_any Aq0a cq0a D a b c _ (HMq0a.out.mat.ext (by repeat (first | exact Ext.refl _ | assumption | apply Ext.drewN' | apply Ext.alloc' | refine Ext.trans ?_ (by assumption)))) bq0).mono ?_
  rintro e wS ⟨vS, rfl, hLS, hFS, hxS⟩
  have HLS := Lib.hid hLS
  have HFS := Lib.hid hFS
  clear hLS hFS
  obtain ⟨AS, cS, ev, hIS⟩ := HLS.out.ints
  subst ev
  have HIS := Lib.hid hIS
  clear hIS
  have szS := hxS.size
  go_wp2_with fail
  refine (toIntSS_any Aq0 cq0 D _ (hq0.ext (by repeat (first | exact Ext.refl _ | assumption | apply Ext.drewN' | apply Ext.alloc' | refine Ext.trans ?_ (by assumption)))) bq0 HRq0.out).mono ?_
  rintro e wq0b ⟨Aq0b, cq0b, Vq0b, rfl, hMq0b, hDq0b, hFq0b, hxq0b⟩
  have HMq0b := Lib.hid hMq0b
  have HDq0b := Lib.hid hDq0b
  have HFq0b := Lib.hid hFq0b
  clear hMq0b hDq0b hFq0b
  have szq0b := hxq0b.size
  go_wp2_with fail
  refine (iMiddlesOf_any Aq0b cq0b D a b c _ (HMq0b.out.mat.ext (by repeat (first | exact Ext.refl _ | assumption | apply Ext.drewN' | apply Ext.alloc' | refine Ext.trans ?_ (by assumption))))).mono ?_
  rintro e wG ⟨vG, rfl, hLG, hFG, hxG⟩
  have HLG := Lib.hid hLG
  have HFG := Lib.hid hFG
  clear hLG hFG
  obtain ⟨AG, cG, ev, hIG⟩ := HLG.out.ints
  subst ev
  have HIG := Lib.hid hIG
  clear hIG
  have szG := hxG.size
  have fV := eqI_refl (midsV D a b c)
  go_wp2_with fail
  refine (q_ext (eqIntS_any AG AS cG cS _ _ _ (HIG.out.ext (by repeat (first | exact Ext.refl _ | assumption | apply Ext.drewN' | apply Ext.alloc' | refine Ext.trans ?_ (by assumption)))) (HIS.out.ext (by repeat (first | exact Ext.refl _ | assumption | apply Ext.drewN' | apply Ext.alloc' | refine Ext.trans ?_ (by assumption)))))).mono ?_
  rintro e u1 ⟨rfl, hxu1⟩
  have szu1 := hxu1.size
  go_wp2_with fail
  refine (toIntSS_any Aq0 cq0 D _ (hq0.ext (by repeat (first | exact Ext.refl _ | assumption | apply Ext.drewN' | apply Ext.alloc' | refine Ext.trans ?_ (by assumption)))) bq0 HRq0.out).mono ?_
  rintro e wq0c ⟨Aq0c, cq0c, Vq0c, rfl, hMq0c, hDq0c, hFq0c, hxq0c⟩
  have HMq0c := Lib.hid hMq0c
  have HDq0c := Lib.hid hDq0c
  have HFq0c := Lib.hid hFq0c
  clear hMq0c hDq0c hFq0c
  have szq0c := hxq0c.size
  have fq0 := eqM_refl D
  go_wp2_with fail
  refine (q_ext (eqIntSS_any Aq0b Aq0c cq0b cq0c D D _ (HMq0b.out.mat.ext (by repeat (first | exact Ext.refl _ | assumption | apply Ext.drewN' | apply Ext.alloc' | refine Ext.trans ?_ (by assumption)))) (HMq0c.out.mat.ext (by repeat (first | exact Ext.refl _ | assumption | apply Ext.drewN' | apply Ext.alloc' | refine Ext.trans ?_ (by assumption)))))).mono ?_
  rintro e u2q0 ⟨rfl, hxu2q0⟩
  have szu2q0 := hxu2q0.size
  have Lq0b := HMq0b.out.ext (show Ext wq0b u2q0 from (by repeat (first | exact Ext.refl _ | assumption | apply Ext.drewN' | apply Ext.alloc' | refine Ext.trans ?_ (by assumption))))
  have loq0b : ∀ g, LV D.length Vq0b g → _ ≤ g := fun g hg => by obtain ⟨i, hi, hm⟩ := hg; exact HFq0b.out i hi g hm
  have hiq0b : ∀ g, LV D.length Vq0b g → g < wq0b.heap.size := fun g hg => by obtain ⟨i, hi, hm⟩ := hg; exact HMq0b.out.lt hi hm
  have HBq0b := Lib.hid (And.intro Lq0b (And.intro loq0b hiq0b))
  clear Lq0b loq0b hiq0b
  have LS := HLS.out.ext (show Ext wS u2q0 from (by repeat (first | exact Ext.refl _ | assumption | apply Ext.drewN' | apply Ext.alloc' | refine Ext.trans ?_ (by assumption))))
  have loS : ∀ g, g ∈ lb (.slice AS (midsV D a b c).length cS) → _ ≤ g := fun g hg => HFS.out g hg
  have hiS : ∀ g, g ∈ lb (.slice AS (midsV D a b c).length cS) → g < wS.heap.size := fun g hg => HLS.out.lt hg
  have HBS := Lib.hid (And.intro LS (And.intro loS hiS))
  clear LS loS hiS
  have LG := HLG.out.ext (show Ext wG u2q0 from (by repeat (first | exact Ext.refl _ | assumption | apply Ext.drewN' | apply Ext.alloc' | refine Ext.trans ?_ (by assumption))))
  have loG : ∀ g, g ∈ lb (.slice AG (midsV D a b c).length cG) → _ ≤ g := fun g hg => HFG.out g hg
  have hiG : ∀ g, g ∈ lb (.slice AG (midsV D a b c).length cG) → g < wG.heap.size := fun g hg => HLG.out.lt hg
  have HBG := Lib.hid (And.intro LG (And.intro loG hiG))
  clear LG loG hiG
  go_wp2_with fail
  refine (markIntSS_any Aq0b cq0b D Vq0b 1 _ HBq0b.out.1 HDq0b.out (by omega) (by omega) (by omega) (by omega)).mono ?_
  rintro e v1 ⟨rfl, hm, ho⟩
  have szv1 := ho.2.2.2.1
  have hxv1 : Ext w v1 := Only.ext (w := u2q0) (by repeat (first | exact Ext.refl _ | assumption | apply Ext.drewN' | apply Ext.alloc' | refine Ext.trans ?_ (by assumption))) ho (fun g hg => by have := HBq0b.out.2.1 g hg; omega)
  replace HBS := Lib.hid (And.intro (HBS.out.1.only ho (fun g hg hs => by have := HBS.out.2.1 g hg; have := HBS.out.2.2 g hg; have := HBq0b.out.2.1 g hs; have := HBq0b.out.2.2 g hs; omega)) HBS.out.2)
  replace HBG := Lib.hid (And.intro (HBG.out.1.only ho (fun g hg hs => by have := HBG.out.2.1 g hg; have := HBG.out.2.2 g hg; have := HBq0b.out.2.1 g hs; have := HBq0b.out.2.2 g hs; omega)) HBG.out.2)
  have HKq0b := Lib.hid hm
  clear hm ho
  clear HBq0b HKq0b
  go_wp2_with fail
  refine (q_ext (eqIntS_any AG AS cG cS _ _ _ (leafI (HBG.out.1.ext (by repeat (first | exact Ext.refl _ | assumption | apply Ext.drewN' | apply Ext.alloc' | refine Ext.trans ?_ (by assumption))))) (leafI (HBS.out.1.ext (by repeat (first | exact Ext.refl _ | assumption | apply Ext.drewN' | apply Ext.alloc' | refine Ext.trans ?_ (by assumption))))))).mono ?_
  rintro e u3 ⟨rfl, hxu3⟩
  have szu3 := hxu3.size
  replace HBS := Lib.hid (And.intro (HBS.out.1.ext (show Ext _ u3 from (by repeat (first | exact Ext.refl _ | assumption | apply Ext.drewN' | apply Ext.alloc' | refine Ext.trans ?_ (by assumption))))) HBS.out.2)
  replace HBG := Lib.hid (And.intro (HBG.out.1.ext (show Ext _ u3 from (by repeat (first | exact Ext.refl _ | assumption | apply Ext.drewN' | apply Ext.alloc' | refine Ext.trans ?_ (by assumption))))) HBG.out.2)
  go_wp2_with fail
  refine (markIntS_any AG cG (midsV D a b c) 1 _ HBG.out.1 (by omega) (by omega) (by omega)).mono ?_
  rintro e v2 ⟨rfl, hm, ho⟩
  have szv2 := ho.2.2.2.1
  have hxv2 : Ext w v2 := Only.ext (w := u3) (by repeat (first | exact Ext.refl _ | assumption | apply Ext.drewN' | apply Ext.alloc' | refine Ext.trans ?_ (by assumption))) ho (fun g hg => by have := HBG.out.2.1 g hg; omega)
  replace HBS := Lib.hid (And.intro (HBS.out.1.only ho (fun g hg hs => by have := HBS.out.2.1 g hg; have := HBS.out.2.2 g hg; have := HBG.out.2.1 g hs; have := HBG.out.2.2 g hs; omega)) HBS.out.2)
  have HKG := Lib.hid hm
  clear hm ho
  go_wp2_with fail
  refine (q_ext (heldmk_any AG cG _ 1 _ HKG.out (by omega) (by omega) (by omega))).mono ?_
  rintro e u4 ⟨rfl, hxu4⟩
  have szu4 := hxu4.size
  go_wp2_with fail
  refine (toIntSS_any Aq0 cq0 D _ (hq0.ext (by repeat (first | exact Ext.refl _ | assumption | apply Ext.drewN' | apply Ext.alloc' | refine Ext.trans ?_ (by assumption)))) bq0 HRq0.out).mono ?_
  rintro e wq0d ⟨Aq0d, cq0d, Vq0d, rfl, hMq0d, hDq0d, hFq0d, hxq0d⟩
  have HMq0d := Lib.hid hMq0d
  have HDq0d := Lib.hid hDq0d
  have HFq0d := Lib.hid hFq0d
  clear hMq0d hDq0d hFq0d
  have szq0d := hxq0d.size
  go_wp2_with fail
  refine (iMiddlesOf_any Aq0d cq0d D a b c _ (HMq0d.out.mat.ext (by repeat (first | exact Ext.refl _ | assumption | apply Ext.drewN' | apply Ext.alloc' | refine Ext.trans ?_ (by assumption))))).mono ?_
  rintro e wH ⟨vH, rfl, hLH, hFH, hxH⟩
  have HLH := Lib.hid hLH
  have HFH := Lib.hid hFH
  clear hLH hFH
  obtain ⟨AH, cH, ev, hIH⟩ := HLH.out.ints
  subst ev
  have HIH := Lib.hid hIH
  clear hIH
  have szH := hxH.size
  go_wp2_with fail
  refine (q_ext (eqIntS_any AH AS cH cS _ _ _ (HIH.out.ext (by repeat (first | exact Ext.refl _ | assumption | apply Ext.drewN' | apply Ext.alloc' | refine Ext.trans ?_ (by assumption)))) (leafI (HBS.out.1.ext (by repeat (first | exact Ext.refl _ | assumption | apply Ext.drewN' | apply Ext.alloc' | refine Ext.trans ?_ (by assumption))))))).mono ?_
  rintro e u5 ⟨rfl, hxu5⟩
  have szu5 := hxu5.size
  go_wp2_with fail
  refine (q_ext (heldmk_any AG cG _ 1 _ (HKG.out.ext (by repeat (first | exact Ext.refl _ | assumption | apply Ext.drewN' | apply Ext.alloc' | refine Ext.trans ?_ (by assumption)))) (by omega) (by omega) (by omega))).mono ?_
  rintro e u6 ⟨rfl, hxu6⟩
  have szu6 := hxu6.size
  go_wp2
  go_ret
  exact ⟨rfl, (by repeat (first | exact Ext.refl _ | assumption | apply Ext.drewN' | apply Ext.alloc' | refine Ext.trans ?_ (by assumption)))⟩
section
open Go.ChangeShapes Go.WideShapes Go.ChangeAt Go.Deep
theorem FnExactMiddlesOf_contract (H : Type) (enc : TypeId × Value → H) (W : World) (base : Nat) (args : Array Value) (ds gs : List (DataW H)) (before : List MemPlace)
    (hval : ∀ (j : Nat) t v, Try.f5.params[j]? = some t → args[j]? = some v → Value.okWide Try.prog W .any base t v)
    (hW : DataW.Whole enc Try.prog Try.f5.params.toList Rows.fnExactMiddlesOfSpec.vars false W args.toList ds gs before) :
    Calls Try.prog 5 args W fun e W' => ∃ v, e = .returned v ∧ Rows.fnExactMiddlesOfSpec.post enc Try.prog Try.f5 false true false false W args v W' := by
  have hW' := hW
  obtain ⟨p, q, hA0, hV, rfl, hfz, hnd⟩ := hW
  have hA : DataW.TrodAll enc Try.prog W 0 (fun _ => true) true Try.f5.params.toList args.toList ds p := hA0
  rw [Try.params5] at hA hval
  obtain ⟨v0, vs0, d0, ds0, p0, q0, hargs0, rfl, rfl, h0, r0⟩ := trodAll_cons hA
  obtain ⟨v1, vs1, d1, ds1, p1, q1, hargs1, rfl, rfl, h1, r1⟩ := trodAll_cons r0
  obtain ⟨v2, vs2, d2, ds2, p2, q2, hargs2, rfl, rfl, h2, r2⟩ := trodAll_cons r1
  obtain ⟨v3, vs3, d3, ds3, p3, q3, hargs3, rfl, rfl, h3, r3⟩ := trodAll_cons r2
  obtain ⟨hargsn, rfl, rfl⟩ := trodAll_nil r3
  obtain rfl : args = #[v0, v1, v2, v3] := by cases args; simp_all
  obtain ⟨rfl, rfl⟩ := trodVars_none hV
  clear hA0
  obtain ⟨A0, c0, D, rfl, M0⟩ := read_mat (hval 0 22 v0 rfl rfl) h0
  obtain ⟨a, rfl, _, _, wf1⟩ := open_int Try.underlying3 (hval 1 3 v1 rfl rfl) h1
  obtain ⟨b, rfl, _, _, wf2⟩ := open_int Try.underlying3 (hval 2 3 v2 rfl rfl) h2
  obtain ⟨c, rfl, _, _, wf3⟩ := open_int Try.underlying3 (hval 3 3 v3 rfl rfl) h3
  refine (FnExactMiddlesOf_walk A0 c0 D a b c W M0).mono fun e W' ⟨he, hx⟩ => ⟨_, he, post_law laidOut (by rw [Try.params5]; decide +kernel) rfl rfl Try.underlying4 hW' rfl hx⟩
set_option maxRecDepth 100000 in
theorem FnExactMiddlesOf_lifted (os : Os) (started : os.Started) (H : Type) (enc : TypeId × Value → H) :
    ReturnsInHanded {} Try.checked os 5 .any (Rows.fnExactMiddlesOfSpec.pre6 enc Try.prog Try.f5 Rows.fnExactMiddlesOfRow.domain false) (Rows.fnExactMiddlesOfSpec.post enc Try.prog Try.f5 false true false false) := by
  refine returnsInHanded_of_change (C := Try.checked) own started (by kernel_rfl) Try.func5
    (ChangeSpec.witness6 (enc := enc) (C := Try.checked) false ⟨#[], #[.slice none 0 0, .int .i64 0, .int .i64 0, .int .i64 0], []⟩ 8 (by kernel_rfl) (by kernel_rfl) (by kernel_rfl) (by kernel_rfl) rfl) ?_
  intro W base args ds gs before hval hW _ _
  exact FnExactMiddlesOf_contract H enc W base args ds gs before hval hW
theorem FnExactMiddlesOf_holds : Rows.FnExactMiddlesOfSaid :=
  OpenClaim.holds_of_wide 5 Try.f5 rfl rfl rfl rfl rfl rfl rfl ⟨rfl, rfl, rfl, rfl, rfl⟩ rfl rfl rfl rfl rfl (by kernel_rfl) Try.func5 (by kernel_rfl)
    (of_decide_eq_true (by kernel_rfl)) (by unfold Func.isWrapper; first | (rw [if_pos (by decide +kernel)]; kernel_rfl) | (rw [if_neg (by decide +kernel)]; exact ⟨rfl, rfl⟩))
    (fun os started H enc _ => FnExactMiddlesOf_lifted os started H enc)
end
end Go.Proofs.Ytpfbnaachibbfaa
