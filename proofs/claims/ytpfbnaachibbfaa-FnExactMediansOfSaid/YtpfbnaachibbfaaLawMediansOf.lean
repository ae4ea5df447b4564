/- What is proved: the law FnExactMediansOf returns true for every input, and its arguments read behind the call as before. No condition. -/
import Derived.Test.YtpfbnaachibbfaaMeds
import Derived.Test.YtpfbnaachibbfaaFrame
namespace Go.Proofs.Ytpfbnaachibbfaa
open Go.RowKit
set_option maxRecDepth 100000 in
set_option maxHeartbeats 8000000 in
theorem FnExactMediansOf_walk (Aq0 : Option Addr) (cq0 : Nat) (D : List (List Int)) (Aq1 : Option Addr) (cq1 : Nat) (ws : List Int) (w : World) (hq0 : Mat w Aq0 cq0 D) (hq1 : Ints w Aq1 cq1 ws) :
    Calls Try.prog 3 #[.slice Aq0 D.length cq0, .slice Aq1 ws.length cq1] w fun e w' => e = .returned (.bool true) ∧ Ext w w' := by
  have hmq1 := hq1.2.1
  have hlq1 := hq1.1
  unfold maxLen at hmq1
  by_cases zq1 : 1048576 < ws.length
  · have zq1' : (1048576 : Int) < (ws.length : Nat) := by omega
    go_enter Try.func3, Try.ntmps3
    go_wp2
    go_ret
    exact ⟨rfl, (by repeat (first | exact Ext.refl _ | assumption | apply Ext.drewN' | apply Ext.alloc' | refine Ext.trans ?_ (by assumption)))⟩
  by_cases yq0 : szM D (1048576) < 0
  · go_enter Try.func3, Try.ntmps3
    go_wp2_with fail
    refine (szIntSS_any Aq0 cq0 D _ _ (hq0.ext (by repeat (first | exact Ext.refl _ | assumption | apply Ext.drewN' | apply Ext.alloc' | refine Ext.trans ?_ (by assumption)))) (by omega) (by omega)).mono ?_
    rintro e w1q0 ⟨rfl, m1q0, rfl⟩
    go_wp2
    go_ret
    exact ⟨rfl, (by repeat (first | exact Ext.refl _ | assumption | apply Ext.drewN' | apply Ext.alloc' | refine Ext.trans ?_ (by assumption)))⟩
  obtain ⟨xq0, eq0⟩ := szM_spec (D := D) (l := 1048576) (by omega)
  have bq0 : D.length ≤ 1048576 := by omega
  have tq0 : total D ≤ 1048576 := by omega
  have rq0 : ∀ i, i < D.length → (row D i).length ≤ 1048576 := fun i hi => by have := row_le_total hi; omega
  have HRq0 := Lib.hid rq0
  clear rq0
  have vl := medsV_len D ws
  go_enter Try.func3, Try.ntmps3
  go_wp2_with fail
  refine (q_ext (szIntSS_any Aq0 cq0 D _ _ (hq0.ext (by repeat (first | exact Ext.refl _ | assumption | apply Ext.drewN' | apply Ext.alloc' | refine Ext.trans ?_ (by assumption)))) (by omega) (by omega))).mono ?_
  rintro e w1q0 ⟨rfl, hxw1q0⟩
  have szw1q0 := hxw1q0.size
  go_wp2_with fail
  refine (toIntSS_any Aq0 cq0 D _ (hq0.ext (by repeat (first | exact Ext.refl _ | assumption | apply Ext.drewN' | apply Ext.alloc' | refine Ext.trans ?_ (by assumption)))) bq0 HRq0.out).mono ?_
  rintro e wq0a ⟨Aq0a, cq0a, Vq0a, rfl, hMq0a, hDq0a, hFq0a, hxq0a⟩
  have HMq0a := Lib.hid hMq0a
  have HDq0a := Lib.hid hDq0a
  have HFq0a := Lib.hid hFq0a
  clear hMq0a hDq0a hFq0a
  have szq0a := hxq0a.size
  go_wp2_with fail
  refine (toIntS_any Aq1 cq1 ws _ (hq1.ext (by repeat (first | exact Ext.refl _ | assumption | apply Ext.drewN' | apply Ext.alloc' | refine Ext.trans ?_ (by assumption)))) (by omega)).mono ?_
  rintro e wq1a ⟨vq1a, rfl, hLq1a, hFq1a, hxq1a⟩
  have HLq1a := Lib.hid hLq1a
  have HFq1a := Lib.hid hFq1a
  clear hLq1a hFq1a
  obtain ⟨Aq1a, cq1a, ev, hIq1a⟩ := HLq1a.out.ints
  subst ev
  have HIq1a := Lib.hid hIq1a
  clear hIq1a
  have szq1a := hxq1a.size
  go_wp2_with fail
  refine (sMediansOf_any Aq0a cq0a D Aq1a cq1a ws _ (HMq0a.out.mat.ext (by repeat (first | exact Ext.refl _ | assumption | apply Ext.drewN' | apply Ext.alloc' | refine Ext.trans ?_ (by assumption)))) (HIq1a.out.ext (by repeat (first | exact Ext.refl _ | assumption | apply Ext.drewN' | apply Ext.alloc' | refine Ext.trans ?_ (by assumption))))).mono ?_
  rintro e wS ⟨vS, rfl, hLS, hFS, hxS⟩
  have HLS := Lib.hid hLS
  have HFS := Lib.hid hFS
  clear hLS hFS
  obtain ⟨AS, cS, ev, hIS⟩ := HLS.out.ints
  subst ev
  have HIS := Lib.hid hIS
  clear hIS
  have szS := hxS.size
  go_wp2_with fail
  refine (toIntSS_any Aq0 cq0 D _ (hq0.ext (by repeat (first | exact Ext.refl _ | assumption | apply Ext.drewN' | apply Ext.alloc' | refine Ext.trans ?_ (by assumption)))) bq0 HRq0.out).mono ?_
  rintro e wq0b ⟨Aq0b, cq0b, Vq0b, rfl, hMq0b, hDq0b, hFq0b, hxq0b⟩
  have HMq0b := Lib.hid hMq0b
  have HDq0b := Lib.hid hDq0b
  have HFq0b := Lib.hid hFq0b
  clear hMq0b hDq0b hFq0b
  have szq0b := hxq0b.size
  go_wp2_with fail
  refine (toIntS_any Aq1 cq1 ws _ (hq1.ext (by repeat (first | exact Ext.refl _ | assumption | apply Ext.drewN' | apply Ext.alloc' | refine Ext.trans ?_ (by assumption)))) (by omega)).mono ?_
  rintro e wq1b ⟨vq1b, rfl, hLq1b, hFq1b, hxq1b⟩
  have HLq1b := Lib.hid hLq1b
  have HFq1b := Lib.hid hFq1b
  clear hLq1b hFq1b
  obtain ⟨Aq1b, cq1b, ev, hIq1b⟩ := HLq1b.out.ints
  subst ev
  have HIq1b := Lib.hid hIq1b
  clear hIq1b
  have szq1b := hxq1b.size
  go_wp2_with fail
  refine (iMediansOf_any Aq0b cq0b D Aq1b cq1b ws _ (HMq0b.out.mat.ext (by repeat (first | exact Ext.refl _ | assumption | apply Ext.drewN' | apply Ext.alloc' | refine Ext.trans ?_ (by assumption)))) (HIq1b.out.ext (by repeat (first | exact Ext.refl _ | assumption | apply Ext.drewN' | apply Ext.alloc' | refine Ext.trans ?_ (by assumption))))).mono ?_
  rintro e wG ⟨vG, rfl, hLG, hFG, hxG⟩
  have HLG := Lib.hid hLG
  have HFG := Lib.hid hFG
  clear hLG hFG
  obtain ⟨AG, cG, ev, hIG⟩ := HLG.out.ints
  subst ev
  have HIG := Lib.hid hIG
  clear hIG
  have szG := hxG.size
  have fV := eqI_refl (medsV D ws)
  go_wp2_with fail
  refine (q_ext (eqIntS_any AG AS cG cS _ _ _ (HIG.out.ext (by repeat (first | exact Ext.refl _ | assumption | apply Ext.drewN' | apply Ext.alloc' | refine Ext.trans ?_ (by assumption)))) (HIS.out.ext (by repeat (first | exact Ext.refl _ | assumption | apply Ext.drewN' | apply Ext.alloc' | refine Ext.trans ?_ (by assumption)))))).mono ?_
  rintro e u1 ⟨rfl, hxu1⟩
  have szu1 := hxu1.size
  go_wp2_with fail
  refine (toIntSS_any Aq0 cq0 D _ (hq0.ext (by repeat (first | exact Ext.refl _ | assumption | apply Ext.drewN' | apply Ext.alloc' | refine Ext.trans ?_ (by assumption)))) bq0 HRq0.out).mono ?_
  rintro e wq0c ⟨Aq0c, cq0c, Vq0c, rfl, hMq0c, hDq0c, hFq0c, hxq0c⟩
  have HMq0c := Lib.hid hMq0c
  have HDq0c := Lib.hid hDq0c
  have HFq0c := Lib.hid hFq0c
  clear hMq0c hDq0c hFq0c
  have szq0c := hxq0c.size
  have fq0 := eqM_refl D
  go_wp2_with fail
  refine (q_ext (eqIntSS_any Aq0b Aq0c cq0b cq0c D D _ (HMq0b.out.mat.ext (by repeat (first | exact Ext.refl _ | assumption | apply Ext.drewN' | apply Ext.alloc' | refine Ext.trans ?_ (by assumption)))) (HMq0c.out.mat.ext (by repeat (first | exact Ext.refl _ | assumption | apply Ext.drewN' | apply Ext.alloc' | refine Ext.trans ?_ (by assumption)))))).mono ?_
  rintro e u2q0 ⟨rfl, hxu2q0⟩
  have szu2q0 := hxu2q0.size
  go_wp2_with fail
  refine (toIntS_any Aq1 cq1 ws _ (hq1.ext (by repeat (first | exact Ext.refl _ | assumption | apply Ext.drewN' | apply Ext.alloc' | refine Ext.trans ?_ (by assumption)))) (by omega)).mono ?_
  rintro e wq1c ⟨vq1c, rfl, hLq1c, hFq1c, hxq1c⟩
  have HLq1c := Lib.hid hLq1c
  have HFq1c := Lib.hid hFq1c
  clear hLq1c hFq1c
  obtain ⟨Aq1c, cq1c, ev, hIq1c⟩ := HLq1c.out.ints
  subst ev
  have HIq1c := Lib.hid hIq1c
  clear hIq1c
  have szq1c := hxq1c.size
  have fq1 := eqI_refl ws
  go_wp2_with fail
  refine (q_ext (eqIntS_any Aq1b Aq1c cq1b cq1c ws ws _ (HIq1b.out.ext (by repeat (first | exact Ext.refl _ | assumption | apply Ext.drewN' | apply Ext.alloc' | refine Ext.trans ?_ (by assumption)))) (HIq1c.out.ext (by repeat (first | exact Ext.refl _ | assumption | apply Ext.drewN' | apply Ext.alloc' | refine Ext.trans ?_ (by assumption)))))).mono ?_
  rintro e u2q1 ⟨rfl, hxu2q1⟩
  have szu2q1 := hxu2q1.size
  have Lq0b := HMq0b.out.ext (show Ext wq0b u2q1 from (by repeat (first | exact Ext.refl _ | assumption | apply Ext.drewN' | apply Ext.alloc' | refine Ext.trans ?_ (by assumption))))
  have loq0b : ∀ g, LV D.length Vq0b g → _ ≤ g := fun g hg => by obtain ⟨i, hi, hm⟩ := hg; exact HFq0b.out i hi g hm
  have hiq0b : ∀ g, LV D.length Vq0b g → g < wq0b.heap.size := fun g hg => by obtain ⟨i, hi, hm⟩ := hg; exact HMq0b.out.lt hi hm
  have HBq0b := Lib.hid (And.intro Lq0b (And.intro loq0b hiq0b))
  clear Lq0b loq0b hiq0b
  have Lq1b := HLq1b.out.ext (show Ext wq1b u2q1 from (by repeat (first | exact Ext.refl _ | assumption | apply Ext.drewN' | apply Ext.alloc' | refine Ext.trans ?_ (by assumption))))
  have loq1b : ∀ g, g ∈ lb (.slice Aq1b (ws).length cq1b) → _ ≤ g := fun g hg => HFq1b.out g hg
  have hiq1b : ∀ g, g ∈ lb (.slice Aq1b (ws).length cq1b) → g < wq1b.heap.size := fun g hg => HLq1b.out.lt hg
  have HBq1b := Lib.hid (And.intro Lq1b (And.intro loq1b hiq1b))
  clear Lq1b loq1b hiq1b
  have LS := HLS.out.ext (show Ext wS u2q1 from (by repeat (first | exact Ext.refl _ | assumption | apply Ext.drewN' | apply Ext.alloc' | refine Ext.trans ?_ (by assumption))))
  have loS : ∀ g, g ∈ lb (.slice AS (medsV D ws).length cS) → _ ≤ g := fun g hg => HFS.out g hg
  have hiS : ∀ g, g ∈ lb (.slice AS (medsV D ws).length cS) → g < wS.heap.size := fun g hg => HLS.out.lt hg
  have HBS := Lib.hid (And.intro LS (And.intro loS hiS))
  clear LS loS hiS
  have LG := HLG.out.ext (show Ext wG u2q1 from (by repeat (first | exact Ext.refl _ | assumption | apply Ext.drewN' | apply Ext.alloc' | refine Ext.trans ?_ (by assumption))))
  have loG : ∀ g, g ∈ lb (.slice AG (medsV D ws).length cG) → _ ≤ g := fun g hg => HFG.out g hg
  have hiG : ∀ g, g ∈ lb (.slice AG (medsV D ws).length cG) → g < wG.heap.size := fun g hg => HLG.out.lt hg
  have HBG := Lib.hid (And.intro LG (And.intro loG hiG))
  clear LG loG hiG
  go_wp2_with fail
  refine (markIntSS_any Aq0b cq0b D Vq0b 1 _ HBq0b.out.1 HDq0b.out (by omega) (by omega) (by omega) (by omega)).mono ?_
  rintro e v1 ⟨rfl, hm, ho⟩
  have szv1 := ho.2.2.2.1
  have hxv1 : Ext w v1 := Only.ext (w := u2q1) (by repeat (first | exact Ext.refl _ | assumption | apply Ext.drewN' | apply Ext.alloc' | refine Ext.trans ?_ (by assumption))) ho (fun g hg => by have := HBq0b.out.2.1 g hg; omega)
  replace HBq1b := Lib.hid (And.intro (HBq1b.out.1.only ho (fun g hg hs => by have := HBq1b.out.2.1 g hg; have := HBq1b.out.2.2 g hg; have := HBq0b.out.2.1 g hs; have := HBq0b.out.2.2 g hs; omega)) HBq1b.out.2)
  replace HBS := Lib.hid (And.intro (HBS.out.1.only ho (fun g hg hs => by have := HBS.out.2.1 g hg; have := HBS.out.2.2 g hg; have := HBq0b.out.2.1 g hs; have := HBq0b.out.2.2 g hs; omega)) HBS.out.2)
  replace HBG := Lib.hid (And.intro (HBG.out.1.only ho (fun g hg hs => by have := HBG.out.2.1 g hg; have := HBG.out.2.2 g hg; have := HBq0b.out.2.1 g hs; have := HBq0b.out.2.2 g hs; omega)) HBG.out.2)
  have HKq0b := Lib.hid hm
  clear hm ho
  clear HBq0b HKq0b
  go_wp2_with fail
  refine (markIntS_any Aq1b cq1b (ws) (1 + (total D : Nat)) _ HBq1b.out.1 (by omega) (by omega) (by omega)).mono ?_
  rintro e v2 ⟨rfl, hm, ho⟩
  have szv2 := ho.2.2.2.1
  have hxv2 : Ext w v2 := Only.ext (w := v1) (by repeat (first | exact Ext.refl _ | assumption | apply Ext.drewN' | apply Ext.alloc' | refine Ext.trans ?_ (by assumption))) ho (fun g hg => by have := HBq1b.out.2.1 g hg; omega)
  replace HBS := Lib.hid (And.intro (HBS.out.1.only ho (fun g hg hs => by have := HBS.out.2.1 g hg; have := HBS.out.2.2 g hg; have := HBq1b.out.2.1 g hs; have := HBq1b.out.2.2 g hs; omega)) HBS.out.2)
  replace HBG := Lib.hid (And.intro (HBG.out.1.only ho (fun g hg hs => by have := HBG.out.2.1 g hg; have := HBG.out.2.2 g hg; have := HBq1b.out.2.1 g hs; have := HBq1b.out.2.2 g hs; omega)) HBG.out.2)
  have HKq1b := Lib.hid hm
  clear hm ho
  clear HBq1b HKq1b
  go_wp2_with fail
  refine (q_ext (eqIntS_any AG AS cG cS _ _ _ (leafI (HBG.out.1.ext (by repeat (first | exact Ext.refl _ | assumption | apply Ext.drewN' | apply Ext.alloc' | refine Ext.trans ?_ (by assumption))))) (leafI (HBS.out.1.ext (by repeat (first | exact Ext.refl _ | assumption | apply Ext.drewN' | apply Ext.alloc' | refine Ext.trans ?_ (by assumption))))))).mono ?_
  rintro e u3 ⟨rfl, hxu3⟩
  have szu3 := hxu3.size
  replace HBS := Lib.hid (And.intro (HBS.out.1.ext (show Ext _ u3 from (by repeat (first | exact Ext.refl _ | assumption | apply Ext.drewN' | apply Ext.alloc' | refine Ext.trans ?_ (by assumption))))) HBS.out.2)
  replace HBG := Lib.hid (And.intro (HBG.out.1.ext (show Ext _ u3 from (by repeat (first | exact Ext.refl _ | assumption | apply Ext.drewN' | apply Ext.alloc' | refine Ext.trans ?_ (by assumption))))) HBG.out.2)
  go_wp2_with fail
  refine (markIntS_any AG cG (medsV D ws) 1 _ HBG.out.1 (by omega) (by omega) (by omega)).mono ?_
  rintro e v3 ⟨rfl, hm, ho⟩
  have szv3 := ho.2.2.2.1
  have hxv3 : Ext w v3 := Only.ext (w := u3) (by repeat (first | exact Ext.refl _ | assumption | apply Ext.drewN' | apply Ext.alloc' | refine Ext.trans ?_ (by assumption))) ho (fun g hg => by have := HBG.out.2.1 g hg; omega)
  replace HBS := Lib.hid (And.intro (HBS.out.1.only ho (fun g hg hs => by have := HBS.out.2.1 g hg; have := HBS.out.2.2 g hg; have := HBG.out.2.1 g hs; have := HBG.out.2.2 g hs; omega)) HBS.out.2)
  have HKG := Lib.hid hm
  clear hm ho
  go_wp2_with fail
  refine (q_ext (heldmk_any AG cG _ 1 _ HKG.out (by omega) (by omega) (by omega))).mono ?_
  rintro e u4 ⟨rfl, hxu4⟩
  have szu4 := hxu4.size
  go_wp2_with fail
  refine (toIntSS_any Aq0 cq0 D _ (hq0.ext (by repeat (first | exact Ext.refl _ | assumption | apply Ext.drewN' | apply Ext.alloc' | refine Ext.trans ?_ (by assumption)))) bq0 HRq0.out).mono ?_
  rintro e wq0d ⟨Aq0d, cq0d, Vq0d, rfl, hMq0d, hDq0d, hFq0d, hxq0d⟩
  have HMq0d := Lib.hid hMq0d
  have HDq0d := Lib.hid hDq0d
  have HFq0d := Lib.hid hFq0d
  clear hMq0d hDq0d hFq0d
  have szq0d := hxq0d.size
  go_wp2_with fail
  refine (toIntS_any Aq1 cq1 ws _ (hq1.ext (by repeat (first | exact Ext.refl _ | assumption | apply Ext.drewN' | apply Ext.alloc' | refine Ext.trans ?_ (by assumption)))) (by omega)).mono ?_
  rintro e wq1d ⟨vq1d, rfl, hLq1d, hFq1d, hxq1d⟩
  have HLq1d := Lib.hid hLq1d
  have HFq1d := Lib.hid hFq1d
  clear hLq1d hFq1d
  obtain ⟨Aq1d, cq1d, ev, hIq1d⟩ := HLq1d.out.ints
  subst ev
  have HIq1d := Lib.hid hIq1d
  clear hIq1d
  have szq1d := hxq1d.size
  go_wp2_with fail
  refine (iMediansOf_any Aq0d cq0d D Aq1d cq1d ws _ (HMq0d.out.mat.ext (by repeat (first | exact Ext.refl _ | assumption | apply Ext.drewN' | apply Ext.alloc' | refine Ext.trans ?_ (by assumption)))) (HIq1d.out.ext (by repeat (first | exact Ext.refl _ | assumption | apply Ext.drewN' | apply Ext.alloc' | refine Ext.trans ?_ (by assumption))))).mono ?_
  rintro e wH ⟨vH, rfl, hLH, hFH, hxH⟩
  have HLH := Lib.hid hLH
  have HFH := Lib.hid hFH
  clear hLH hFH
  obtain ⟨AH, cH, ev, hIH⟩ := HLH.out.ints
  subst ev
  have HIH := Lib.hid hIH
  clear hIH
  have szH := hxH.size
  go_wp2_with fail
  refine (q_ext (eqIntS_any AH AS cH cS _ _ _ (HIH.out.ext (by repeat (first | exact Ext.refl _ | assumption | apply Ext.drewN' | apply Ext.alloc' | refine Ext.trans ?_ (by assumption)))) (leafI (HBS.out.1.ext (by repeat (first | exact Ext.refl _ | assumption | apply Ext.drewN' | apply Ext.alloc' | refine Ext.trans ?_ (by assumption))))))).mono ?_
  rintro e u5 ⟨rfl, hxu5⟩
  have szu5 := hxu5.size
  go_wp2_with fail
  refine (q_ext (heldmk_any AG cG _ 1 _ (HKG.out.ext (by repeat (first | exact Ext.refl _ | assumption | apply Ext.drewN' | apply Ext.alloc' | refine Ext.trans ?_ (by assumption)))) (by omega) (by omega) (by omega))).mono ?_
  rintro e u6 ⟨rfl, hxu6⟩
  have szu6 := hxu6.size
  go_wp2
  go_ret
  exact ⟨rfl, (by repeat (first | exact Ext.refl _ | assumption | apply Ext.drewN' | apply Ext.alloc' | refine Ext.trans ?_ (by assumption)))⟩
section
open Go.ChangeShapes Go.WideShapes Go.ChangeAt Go.Deep
theorem FnExactMediansOf_contract (H : Type) (enc : TypeId × Value → H) (W : World) (base : Nat) (args : Array Value) (ds gs : List (DataW H)) (before : List MemPlace)
    (hval : ∀ (j : Nat) t v, Try.f3.params[j]? = some t → args[j]? = some v → Value.okWide Try.prog W .any base t v)
    (hW : DataW.Whole enc Try.prog Try.f3.params.toList Rows.fnExactMediansOfSpec.vars false W args.toList ds gs before) :
    Calls Try.prog 3 args W fun e W' => ∃ v, e = .returned v ∧ Rows.fnExactMediansOfSpec.post enc Try.prog Try.f3 false true false false W args v W' := by
  have hW' := hW
  obtain ⟨p, q, hA0, hV, rfl, hfz, hnd⟩ := hW
  have hA : DataW.TrodAll enc Try.prog W 0 (fun _ => true) true Try.f3.params.toList args.toList ds p := hA0
  rw [Try.params3] at hA hval
  obtain ⟨v0, vs0, d0, ds0, p0, q0, hargs0, rfl, rfl, h0, r0⟩ := trodAll_cons hA
  obtain ⟨v1, vs1, d1, ds1, p1, q1, hargs1, rfl, rfl, h1, r1⟩ := trodAll_cons r0
  obtain ⟨hargsn, rfl, rfl⟩ := trodAll_nil r1
  obtain rfl : args = #[v0, v1] := by cases args; simp_all
  obtain ⟨rfl, rfl⟩ := trodVars_none hV
  clear hA0
  obtain ⟨A0, c0, D, rfl, M0⟩ := read_mat (hval 0 22 v0 rfl rfl) h0
  obtain ⟨A1, c1, ws, rfl, M1⟩ := read_ints (hval 1 23 v1 rfl rfl) h1
  refine (FnExactMediansOf_walk A0 c0 D A1 c1 ws W M0 M1).mono fun e W' ⟨he, hx⟩ => ⟨_, he, post_law laidOut (by rw [Try.params3]; decide +kernel) rfl rfl Try.underlying4 hW' rfl hx⟩
set_option maxRecDepth 100000 in
theorem FnExactMediansOf_lifted (os : Os) (started : os.Started) (H : Type) (enc : TypeId × Value → H) :
    ReturnsInHanded {} Try.checked os 3 .any (Rows.fnExactMediansOfSpec.pre6 enc Try.prog Try.f3 Rows.fnExactMediansOfRow.domain false) (Rows.fnExactMediansOfSpec.post enc Try.prog Try.f3 false true false false) := by
  refine returnsInHanded_of_change (C := Try.checked) own started (by kernel_rfl) Try.func3
    (ChangeSpec.witness6 (enc := enc) (C := Try.checked) false ⟨#[], #[.slice none 0 0, .slice none 0 0], []⟩ 8 (by kernel_rfl) (by kernel_rfl) (by kernel_rfl) (by kernel_rfl) rfl) ?_
  intro W base args ds gs before hval hW _ _
  exact FnExactMediansOf_contract H enc W base args ds gs before hval hW
theorem FnExactMediansOf_holds : Rows.FnExactMediansOfSaid :=
  OpenClaim.holds_of_wide 3 Try.f3 rfl rfl rfl rfl rfl rfl rfl ⟨rfl, rfl, rfl, rfl, rfl⟩ rfl rfl rfl rfl rfl (by kernel_rfl) Try.func3 (by kernel_rfl)
    (of_decide_eq_true (by kernel_rfl)) (by unfold Func.isWrapper; first | (rw [if_pos (by decide +kernel)]; kernel_rfl) | (rw [if_neg (by decide +kernel)]; exact ⟨rfl, rfl⟩))
    (fun os started H enc _ => FnExactMediansOf_lifted os started H enc)
end
end Go.Proofs.Ytpfbnaachibbfaa
