/- What is proved: the law FnExactSplitsOf returns true for every input, and its arguments read behind the call as before. No condition. -/
import Derived.Test.YtpfbnaachibbfaaSpl2
import Derived.Test.YtpfbnaachibbfaaFrame
namespace Go.Proofs.Ytpfbnaachibbfaa
open Go.RowKit
theorem total_le_mul {k : Nat} : ∀ D : List (List Int), (∀ r ∈ D, r.length ≤ k) → total D ≤ k * D.length
  | [], _ => by simp [total]
  | r :: D, h => by
    rw [total_cons]
    have h1 := total_le_mul D fun r hr => h r (List.mem_cons_of_mem _ hr)
    have h2 := h r List.mem_cons_self
    rw [List.length_cons, Nat.mul_succ]
    omega
theorem splV_bd (D : List (List Int)) : (splV D).length ≤ 32 ∧ total (splV D) ≤ 64 := by
  unfold splV
  by_cases h : spB D = true
  · rw [if_pos h]
    obtain ⟨b1, b2⟩ := pow_bd (spB_len h).2
    obtain ⟨a, b⟩ := splL_spec (fun k => isoI D k) (2 ^ (D.length - 1)) b1
    have := total_le_mul (k := 2) (splD D) fun r hr => by
      obtain ⟨k, _, _, rfl, _⟩ := b r hr
      exact Nat.le_refl _
    unfold splD at this ⊢
    omega
  · rw [if_neg h]
    exact ⟨by simp, by simp [total]⟩
set_option maxRecDepth 100000 in
set_option maxHeartbeats 8000000 in
theorem FnExactSplitsOf_walk (Aq0 : Option Addr) (cq0 : Nat) (D : List (List Int)) (w : World) (hq0 : Mat w Aq0 cq0 D) :
    Calls Try.prog 10 #[.slice Aq0 D.length cq0] w fun e w' => e = .returned (.bool true) ∧ Ext w w' := by
  by_cases yq0 : szM D (1048576) < 0
  · go_enter Try.func10, Try.ntmps10
    go_wp2_with fail
    refine (szIntSS_any Aq0 cq0 D _ _ (hq0.ext (by repeat (first | exact Ext.refl _ | assumption | apply Ext.drewN' | apply Ext.alloc' | refine Ext.trans ?_ (by assumption)))) (by omega) (by omega)).mono ?_
    rintro e w1q0 ⟨rfl, m1q0, rfl⟩
    go_wp2
    go_ret
    exact ⟨rfl, (by repeat (first | exact Ext.refl _ | assumption | apply Ext.drewN' | apply Ext.alloc' | refine Ext.trans ?_ (by assumption)))⟩
  obtain ⟨xq0, eq0⟩ := szM_spec (D := D) (l := 1048576) (by omega)
  have bq0 : D.length ≤ 1048576 := by omega
  have tq0 : total D ≤ 1048576 := by omega
  have rq0 : ∀ i, i < D.length → (row D i).length ≤ 1048576 := fun i hi => by have := row_le_total hi; omega
  have HRq0 := Lib.hid rq0
  clear rq0
  obtain ⟨vl, vt⟩ := splV_bd D
  go_enter Try.func10, Try.ntmps10
  go_wp2_with fail
  refine (q_ext (szIntSS_any Aq0 cq0 D _ _ (hq0.ext (by repeat (first | exact Ext.refl _ | assumption | apply Ext.drewN' | apply Ext.alloc' | refine Ext.trans ?_ (by assumption)))) (by omega) (by omega))).mono ?_
  rintro e w1q0 ⟨rfl, hxw1q0⟩
  have szw1q0 := hxw1q0.size
  go_wp2_with fail
  refine (toIntSS_any Aq0 cq0 D _ (hq0.ext (by repeat (first | exact Ext.refl _ | assumption | apply Ext.drewN' | apply Ext.alloc' | refine Ext.trans ?_ (by assumption)))) bq0 HRq0.out).mono ?_
  rintro e wq0a ⟨Aq0a, cq0a, Vq0a, rfl, hMq0a, hDq0a, hFq0a, hxq0a⟩
  have HMq0a := Lib.hid hMq0a
  have HDq0a := Lib.hid hDq0a
  have HFq0a := Lib.hid hFq0a
  clear hMq0a hDq0a hFq0a
  have szq0a := hxq0a.size
  go_wp2_with fail
  refine (sSplitsOf_any Aq0a cq0a D _ (HMq0a.out.mat.ext (by repeat (first | exact Ext.refl _ | assumption | apply Ext.drewN' | apply Ext.alloc' | refine Ext.trans ?_ (by assumption))))).mono ?_
  rintro e wS ⟨AS, cS, VS, rfl, hMS, hDS, hFS, hxS⟩
  have HMS := Lib.hid hMS
  have HDS := Lib.hid hDS
  have HFS := Lib.hid hFS
  clear hMS hDS hFS
  have szS := hxS.size
  go_wp2_with fail
  refine (toIntSS_any Aq0 cq0 D _ (hq0.ext (by repeat (first | exact Ext.refl _ | assumption | apply Ext.drewN' | apply Ext.alloc' | refine Ext.trans ?_ (by assumption)))) bq0 HRq0.out).mono ?_
  rintro e wq0b ⟨Aq0b, cq0b, Vq0b, rfl, hMq0b, hDq0b, hFq0b, hxq0b⟩
  have HMq0b := Lib.hid hMq0b
  have HDq0b := Lib.hid hDq0b
  have HFq0b := Lib.hid hFq0b
  clear hMq0b hDq0b hFq0b
  have szq0b := hxq0b.size
  go_wp2_with fail
  refine (iSplitsOf_any Aq0b cq0b D _ (HMq0b.out.mat.ext (by repeat (first | exact Ext.refl _ | assumption | apply Ext.drewN' | apply Ext.alloc' | refine Ext.trans ?_ (by assumption))))).mono ?_
  rintro e wG ⟨AG, cG, VG, rfl, hMG, hDG, hFG, hxG⟩
  have HMG := Lib.hid hMG
  have HDG := Lib.hid hDG
  have HFG := Lib.hid hFG
  clear hMG hDG hFG
  have szG := hxG.size
  have fV := eqM_refl (splV D)
  go_wp2_with fail
  refine (q_ext (eqIntSS_any AG AS cG cS _ _ _ (HMG.out.mat.ext (by repeat (first | exact Ext.refl _ | assumption | apply Ext.drewN' | apply Ext.alloc' | refine Ext.trans ?_ (by assumption)))) (HMS.out.mat.ext (by repeat (first | exact Ext.refl _ | assumption | apply Ext.drewN' | apply Ext.alloc' | refine Ext.trans ?_ (by assumption)))))).mono ?_
  rintro e u1 ⟨rfl, hxu1⟩
  have szu1 := hxu1.size
  go_wp2_with fail
  refine (toIntSS_any Aq0 cq0 D _ (hq0.ext (by repeat (first | exact Ext.refl _ | assumption | apply Ext.drewN' | apply Ext.alloc' | refine Ext.trans ?_ (by assumption)))) bq0 HRq0.out).mono ?_
  rintro e wq0c ⟨Aq0c, cq0c, Vq0c, rfl, hMq0c, hDq0c, hFq0c, hxq0c⟩
  have HMq0c := Lib.hid hMq0c
  have HDq0c := Lib.hid hDq0c
  have HFq0c := Lib.hid hFq0c
  clear hMq0c hDq0c hFq0c
  have szq0c := hxq0c.size
  have fq0 := eqM_refl D
  go_wp2_with fail
  refine (q_ext (eqIntSS_any Aq0b Aq0c cq0b cq0c D D _ (HMq0b.out.mat.ext (by repeat (first | exact Ext.refl _ | assumption | apply Ext.drewN' | apply Ext.alloc' | refine Ext.trans ?_ (by assumption)))) (HMq0c.out.mat.ext (by repeat (first | exact Ext.refl _ | assumption | apply Ext.drewN' | apply Ext.alloc' | refine Ext.trans ?_ (by assumption)))))).mono ?_
  rintro e u2q0 ⟨rfl, hxu2q0⟩
  have szu2q0 := hxu2q0.size
  have Lq0b := HMq0b.out.ext (show Ext wq0b u2q0 from (by repeat (first | exact Ext.refl _ | assumption | apply Ext.drewN' | apply Ext.alloc' | refine Ext.trans ?_ (by assumption))))
  have loq0b : ∀ g, LV (D).length Vq0b g → _ ≤ g := fun g hg => by obtain ⟨i, hi, hm⟩ := hg; exact HFq0b.out i hi g hm
  have hiq0b : ∀ g, LV (D).length Vq0b g → g < wq0b.heap.size := fun g hg => by obtain ⟨i, hi, hm⟩ := hg; exact HMq0b.out.lt hi hm
  have HBq0b := Lib.hid (And.intro Lq0b (And.intro loq0b hiq0b))
  clear Lq0b loq0b hiq0b
  have LS := HMS.out.ext (show Ext wS u2q0 from (by repeat (first | exact Ext.refl _ | assumption | apply Ext.drewN' | apply Ext.alloc' | refine Ext.trans ?_ (by assumption))))
  have loS : ∀ g, LV (splV D).length VS g → _ ≤ g := fun g hg => by obtain ⟨i, hi, hm⟩ := hg; exact HFS.out i hi g hm
  have hiS : ∀ g, LV (splV D).length VS g → g < wS.heap.size := fun g hg => by obtain ⟨i, hi, hm⟩ := hg; exact HMS.out.lt hi hm
  have HBS := Lib.hid (And.intro LS (And.intro loS hiS))
  clear LS loS hiS
  have LG := HMG.out.ext (show Ext wG u2q0 from (by repeat (first | exact Ext.refl _ | assumption | apply Ext.drewN' | apply Ext.alloc' | refine Ext.trans ?_ (by assumption))))
  have loG : ∀ g, LV (splV D).length VG g → _ ≤ g := fun g hg => by obtain ⟨i, hi, hm⟩ := hg; exact HFG.out i hi g hm
  have hiG : ∀ g, LV (splV D).length VG g → g < wG.heap.size := fun g hg => by obtain ⟨i, hi, hm⟩ := hg; exact HMG.out.lt hi hm
  have HBG := Lib.hid (And.intro LG (And.intro loG hiG))
  clear LG loG hiG
  go_wp2_with fail
  refine (markIntSS_any Aq0b cq0b (D) Vq0b 1 _ HBq0b.out.1 HDq0b.out (by omega) (by omega) (by omega) (by omega)).mono ?_
  rintro e v1 ⟨rfl, hm, ho⟩
  have szv1 := ho.2.2.2.1
  have hxv1 : Ext w v1 := Only.ext (w := u2q0) (by repeat (first | exact Ext.refl _ | assumption | apply Ext.drewN' | apply Ext.alloc' | refine Ext.trans ?_ (by assumption))) ho (fun g hg => by have := HBq0b.out.2.1 g hg; omega)
  replace HBS := Lib.hid (And.intro (HBS.out.1.only ho (fun g hg hs => by have := HBS.out.2.1 g hg; have := HBS.out.2.2 g hg; have := HBq0b.out.2.1 g hs; have := HBq0b.out.2.2 g hs; omega) (fun g hg => HBq0b.out.1.isI hg)) HBS.out.2)
  replace HBG := Lib.hid (And.intro (HBG.out.1.only ho (fun g hg hs => by have := HBG.out.2.1 g hg; have := HBG.out.2.2 g hg; have := HBq0b.out.2.1 g hs; have := HBq0b.out.2.2 g hs; omega) (fun g hg => HBq0b.out.1.isI hg)) HBG.out.2)
  have HKq0b := Lib.hid hm
  clear hm ho
  clear HBq0b HKq0b
  go_wp2_with fail
  refine (q_ext (eqIntSS_any AG AS cG cS _ _ _ (HBG.out.1.mat.ext (by repeat (first | exact Ext.refl _ | assumption | apply Ext.drewN' | apply Ext.alloc' | refine Ext.trans ?_ (by assumption)))) (HBS.out.1.mat.ext (by repeat (first | exact Ext.refl _ | assumption | apply Ext.drewN' | apply Ext.alloc' | refine Ext.trans ?_ (by assumption)))))).mono ?_
  rintro e u3 ⟨rfl, hxu3⟩
  have szu3 := hxu3.size
  replace HBS := Lib.hid (And.intro (HBS.out.1.ext (show Ext _ u3 from (by repeat (first | exact Ext.refl _ | assumption | apply Ext.drewN' | apply Ext.alloc' | refine Ext.trans ?_ (by assumption))))) HBS.out.2)
  replace HBG := Lib.hid (And.intro (HBG.out.1.ext (show Ext _ u3 from (by repeat (first | exact Ext.refl _ | assumption | apply Ext.drewN' | apply Ext.alloc' | refine Ext.trans ?_ (by assumption))))) HBG.out.2)
  go_wp2_with fail
  refine (markIntSS_any AG cG (splV D) VG 1 _ HBG.out.1 HDG.out (by omega) (by omega) (by omega) (by omega)).mono ?_
  rintro e v2 ⟨rfl, hm, ho⟩
  have szv2 := ho.2.2.2.1
  have hxv2 : Ext w v2 := Only.ext (w := u3) (by repeat (first | exact Ext.refl _ | assumption | apply Ext.drewN' | apply Ext.alloc' | refine Ext.trans ?_ (by assumption))) ho (fun g hg => by have := HBG.out.2.1 g hg; omega)
  replace HBS := Lib.hid (And.intro (HBS.out.1.only ho (fun g hg hs => by have := HBS.out.2.1 g hg; have := HBS.out.2.2 g hg; have := HBG.out.2.1 g hs; have := HBG.out.2.2 g hs; omega) (fun g hg => HBG.out.1.isI hg)) HBS.out.2)
  have HKG := Lib.hid hm
  clear hm ho
  go_wp2_with fail
  refine (q_ext (heldmkM_any AG cG _ VG 1 _ HKG.out (by omega) (by omega) (by omega) (by omega))).mono ?_
  rintro e u4 ⟨rfl, hxu4⟩
  have szu4 := hxu4.size
  go_wp2_with fail
  refine (toIntSS_any Aq0 cq0 D _ (hq0.ext (by repeat (first | exact Ext.refl _ | assumption | apply Ext.drewN' | apply Ext.alloc' | refine Ext.trans ?_ (by assumption)))) bq0 HRq0.out).mono ?_
  rintro e wq0d ⟨Aq0d, cq0d, Vq0d, rfl, hMq0d, hDq0d, hFq0d, hxq0d⟩
  have HMq0d := Lib.hid hMq0d
  have HDq0d := Lib.hid hDq0d
  have HFq0d := Lib.hid hFq0d
  clear hMq0d hDq0d hFq0d
  have szq0d := hxq0d.size
  go_wp2_with fail
  refine (iSplitsOf_any Aq0d cq0d D _ (HMq0d.out.mat.ext (by repeat (first | exact Ext.refl _ | assumption | apply Ext.drewN' | apply Ext.alloc' | refine Ext.trans ?_ (by assumption))))).mono ?_
  rintro e wH ⟨AH, cH, VH, rfl, hMH, hDH, hFH, hxH⟩
  have HMH := Lib.hid hMH
  have HDH := Lib.hid hDH
  have HFH := Lib.hid hFH
  clear hMH hDH hFH
  have szH := hxH.size
  go_wp2_with fail
  refine (q_ext (eqIntSS_any AH AS cH cS _ _ _ (HMH.out.mat.ext (by repeat (first | exact Ext.refl _ | assumption | apply Ext.drewN' | apply Ext.alloc' | refine Ext.trans ?_ (by assumption)))) (HBS.out.1.mat.ext (by repeat (first | exact Ext.refl _ | assumption | apply Ext.drewN' | apply Ext.alloc' | refine Ext.trans ?_ (by assumption)))))).mono ?_
  rintro e u5 ⟨rfl, hxu5⟩
  have szu5 := hxu5.size
  go_wp2_with fail
  refine (q_ext (heldmkM_any AG cG _ VG 1 _ (HKG.out.ext (by repeat (first | exact Ext.refl _ | assumption | apply Ext.drewN' | apply Ext.alloc' | refine Ext.trans ?_ (by assumption)))) (by omega) (by omega) (by omega) (by omega))).mono ?_
  rintro e u6 ⟨rfl, hxu6⟩
  have szu6 := hxu6.size
  go_wp2
  go_ret
  exact ⟨rfl, (by repeat (first | exact Ext.refl _ | assumption | apply Ext.drewN' | apply Ext.alloc' | refine Ext.trans ?_ (by assumption)))⟩
section
open Go.ChangeShapes Go.WideShapes Go.ChangeAt Go.Deep
theorem FnExactSplitsOf_contract (H : Type) (enc : TypeId × Value → H) (W : World) (base : Nat) (args : Array Value) (ds gs : List (DataW H)) (before : List MemPlace)
    (hval : ∀ (j : Nat) t v, Try.f10.params[j]? = some t → args[j]? = some v → Value.okWide Try.prog W .any base t v)
    (hW : DataW.Whole enc Try.prog Try.f10.params.toList Rows.fnExactSplitsOfSpec.vars false W args.toList ds gs before) :
    Calls Try.prog 10 args W fun e W' => ∃ v, e = .returned v ∧ Rows.fnExactSplitsOfSpec.post enc Try.prog Try.f10 false true false false W args v W' := by
  have hW' := hW
  obtain ⟨p, q, hA0, hV, rfl, hfz, hnd⟩ := hW
  have hA : DataW.TrodAll enc Try.prog W 0 (fun _ => true) true Try.f10.params.toList args.toList ds p := hA0
  rw [Try.params10] at hA hval
  obtain ⟨v0, vs0, d0, ds0, p0, q0, hargs0, rfl, rfl, h0, r0⟩ := trodAll_cons hA
  obtain ⟨hargsn, rfl, rfl⟩ := trodAll_nil r0
  obtain rfl : args = #[v0] := by cases args; simp_all
  obtain ⟨rfl, rfl⟩ := trodVars_none hV
  clear hA0
  obtain ⟨A0, c0, D, rfl, M0⟩ := read_mat (hval 0 22 v0 rfl rfl) h0
  refine (FnExactSplitsOf_walk A0 c0 D W M0).mono fun e W' ⟨he, hx⟩ => ⟨_, he, post_law laidOut (by rw [Try.params10]; decide +kernel) rfl rfl Try.underlying4 hW' rfl hx⟩
set_option maxRecDepth 100000 in
theorem FnExactSplitsOf_lifted (os : Os) (started : os.Started) (H : Type) (enc : TypeId × Value → H) :
    ReturnsInHanded {} Try.checked os 10 .any (Rows.fnExactSplitsOfSpec.pre6 enc Try.prog Try.f10 Rows.fnExactSplitsOfRow.domain false) (Rows.fnExactSplitsOfSpec.post enc Try.prog Try.f10 false true false false) := by
  refine returnsInHanded_of_change (C := Try.checked) own started (by kernel_rfl) Try.func10
    (ChangeSpec.witness6 (enc := enc) (C := Try.checked) false ⟨#[], #[.slice none 0 0], []⟩ 8 (by kernel_rfl) (by kernel_rfl) (by kernel_rfl) (by kernel_rfl) rfl) ?_
  intro W base args ds gs before hval hW _ _
  exact FnExactSplitsOf_contract H enc W base args ds gs before hval hW
theorem FnExactSplitsOf_holds : Rows.FnExactSplitsOfSaid :=
  OpenClaim.holds_of_wide 10 Try.f10 rfl rfl rfl rfl rfl rfl rfl ⟨rfl, rfl, rfl, rfl, rfl⟩ rfl rfl rfl rfl rfl (by kernel_rfl) Try.func10 (by kernel_rfl)
    (of_decide_eq_true (by kernel_rfl)) (by unfold Func.isWrapper; first | (rw [if_pos (by decide +kernel)]; kernel_rfl) | (rw [if_neg (by decide +kernel)]; exact ⟨rfl, rfl⟩))
    (fun os started H enc _ => FnExactSplitsOf_lifted os started H enc)
end
end Go.Proofs.Ytpfbnaachibbfaa
