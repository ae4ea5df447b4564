/- What is proved: the law FnSplitsOf returns true for every input, and its argument reads behind the call as before. No condition. -/
import Derived.Test.YtimelegkgaimjaaLawFnAllDivided
import Derived.Test.YtimelegkgaimjaaSpl2
import Derived.Test.YtimelegkgaimjaaFit
import Derived.Test.YtimelegkgaimjaaQx
namespace Go.Proofs.Ytimelegkgaimjaa
open Go.RowKit
theorem fit_no : ∀ n : Fin 7, ∀ a b : Fin 32, a.val < 2 ^ (n.val - 1) → b.val < 2 ^ (n.val - 1) → fitN n.val (a.val : Int) (b.val : Int) = false →
    (∃ x : Fin 6, x.val < n.val ∧ bitI (a.val : Int) x.val = 1 ∧ bitI (b.val : Int) x.val = 1) ∧ (∃ x : Fin 6, x.val < n.val ∧ bitI (a.val : Int) x.val = 1 ∧ bitI (b.val : Int) x.val = 0) ∧
    (∃ x : Fin 6, x.val < n.val ∧ bitI (a.val : Int) x.val = 0 ∧ bitI (b.val : Int) x.val = 1) ∧ (∃ x : Fin 6, x.val < n.val ∧ bitI (a.val : Int) x.val = 0 ∧ bitI (b.val : Int) x.val = 0) := by decide +kernel
theorem spl_at {D : List (List Int)} {i : Nat} (hi : i < (splD D).length) : ∃ k : Nat, 1 ≤ k ∧ k < 2 ^ (D.length - 1) ∧ at2 (splD D) i 0 = (k : Int) ∧ at2 (splD D) i 1 = isoI D k ∧ 0 < isoI D k := by
  obtain ⟨k, k1, k2, e, h⟩ := spl_lots (D := D) (r := row (splD D) i) (by rw [row_of hi]; exact List.getElem_mem _)
  refine ⟨k, k1, k2, ?_, ?_, h⟩
  · unfold at2; rw [e]; rfl
  · unfold at2; rw [e]; rfl
theorem spl_iso {D : List (List Int)} (hs : spB D = true) {i : Nat} (hi : i < (splD D).length) : isoV D (at2 (splD D) i 0) = at2 (splD D) i 1 ∧ 0 < at2 (splD D) i 1 ∧ at2 (splD D) i 1 ≤ 240 := by
  obtain ⟨k, k1, k2, e0, e1, h⟩ := spl_at hi
  have hn := (spB_len hs).1
  have h2 : 2 ≤ D.length := by
    refine Classical.byContradiction fun q => ?_
    have : D.length - 1 = 0 := by omega
    rw [this] at k2
    omega
  rw [e0, e1]
  refine ⟨?_, h, isoI_le D k⟩
  unfold isoV
  rw [if_pos (splitB_mk hs h2 k1 k2)]
theorem spl_fit {D : List (List Int)} (ht : treeB D = true) (hs : spB D = true) {i j : Nat} (hi : i < (splD D).length) (hj : j < (splD D).length) : fitB D (at2 (splD D) i 0) (at2 (splD D) j 0) = true := by
  obtain ⟨k, k1, k2, e0, e1, h⟩ := spl_at hi
  obtain ⟨m, m1, m2, f0, f1, g⟩ := spl_at hj
  obtain ⟨n1, n6⟩ := spB_len hs
  have h2 : 2 ≤ D.length := by
    refine Classical.byContradiction fun q => ?_
    have : D.length - 1 = 0 := by omega
    rw [this] at k2
    omega
  have hp : 2 ^ (D.length - 1) ≤ 2 ^ 5 := Nat.pow_le_pow_right (by decide) (by omega)
  rw [e0, f0]
  unfold fitB
  rw [splitB_mk hs h2 k1 k2, splitB_mk hs h2 m1 m2, Bool.true_and, Bool.true_and]
  cases q : fitN D.length (k : Int) (m : Int) with
  | true => rfl
  | false =>
    exfalso
    obtain ⟨⟨x, hx, x1, x2⟩, ⟨y, hy, y1, y2⟩, ⟨z, hz, z1, z2⟩, ⟨w, hw, w1, w2⟩⟩ := fit_no ⟨D.length, by omega⟩ ⟨k, by omega⟩ ⟨m, by omega⟩ k2 m2 q
    exact tree_fit hs (tree_four ht) h g (iso_idx hs h) (iso_idx hs g) hx hy hz hw x1 x2 y1 y2 z1 z2 w1 w2 fun a ha b hb => at2_sym (spB_far hs) ha hb
set_option maxRecDepth 100000 in
set_option maxHeartbeats 8000000 in
theorem FnSplitsOf_walk (A : Option Addr) (n c : Nat) (w : World) (h : Byt w A n c) :
    Calls Try.prog 5 #[.slice A n c] w fun e w' => e = .returned (.bool true) ∧ Ext w w' := by
  by_cases hz : 1048576 < n
  · have hz' : (1048576 : Int) < (n : Nat) := by omega
    go_enter Try.func5, Try.ntmps5
    go_wp2
    go_ret
    exact ⟨rfl, (by repeat (first | exact Ext.refl _ | assumption | apply Ext.drewN' | apply Ext.alloc' | refine Ext.trans ?_ (by assumption)))⟩
  have hz' : ¬ (1048576 : Int) < (n : Nat) := by omega
  go_enter Try.func5, Try.ntmps5
  go_wp2_with fail
  refine (drawSplitsOf_any A n c w h).mono ?_
  rintro e w1 ⟨A1, c1, D, rfl, hM, hx1⟩
  have HM := Lib.hid hM
  have hx : Ext w w1 := hx1
  clear hx1 hM
  go_wp2_with fail
  refine (iSplitsOf_any A1 c1 D _ HM.out).mono ?_
  rintro e w2 ⟨A2, c2, V2, rfl, hL2, -, -, hx2⟩
  have HL2 := Lib.hid hL2.mat
  clear hL2
  go_wp2_with fail
  refine (sSplitsOf_any A1 c1 D _ (HM.out.ext (by repeat (first | exact Ext.refl _ | assumption | apply Ext.drewN' | apply Ext.alloc' | refine Ext.trans ?_ (by assumption))))).mono ?_
  rintro e w3 ⟨A3, c3, V3, rfl, hL3, -, -, hx3⟩
  have HL3 := Lib.hid hL3.mat
  have HE := Lib.hid (eqM_refl (splV D))
  clear hL3
  go_wp2_with fail
  refine (q_ext (sameRows_any A2 A3 c2 c3 (splV D) (splV D) _ (HL2.out.ext (by repeat (first | exact Ext.refl _ | assumption | apply Ext.drewN' | apply Ext.alloc' | refine Ext.trans ?_ (by assumption)))) (HL3.out.ext (by repeat (first | exact Ext.refl _ | assumption | apply Ext.drewN' | apply Ext.alloc' | refine Ext.trans ?_ (by assumption)))))).mono ?_
  rintro e w4 ⟨rfl, hx4⟩
  rw [HE.out]
  have HV := Lib.hid (show splV D = if spB D = true then splD D else [] from rfl)
  have HSO := Lib.hid (fun W (q : Mat W A1 c1 D) => SpaceOk_any A1 c1 D W q)
  cases hs : spB D with
  | false =>
    rw [hs, if_neg (by decide)] at HV
    rw [hs] at HSO
    rw [HV.out]
    clear hs HE
    go_wp2_with fail
    refine (q_ext (HSO.out _ (HM.out.ext (by repeat (first | exact Ext.refl _ | assumption | apply Ext.drewN' | apply Ext.alloc' | refine Ext.trans ?_ (by assumption)))))).mono ?_
    rintro e w5 ⟨rfl, hx5⟩
    go_wp2_with fail
    refine (alive_any _).mono ?_
    rintro e w7 ⟨rfl, hx7⟩
    go_wp2
    go_ret
    exact ⟨rfl, (by repeat (first | exact Ext.refl _ | assumption | apply Ext.drewN' | apply Ext.alloc' | refine Ext.trans ?_ (by assumption)))⟩
  | true =>
    rw [hs, if_pos rfl] at HV
    rw [hs] at HSO
    rw [HV.out] at HL2
    rw [HV.out]
    have h2 := splD_two hs
    obtain ⟨bk, o, rc, rb, ro, hA, hrow, hcell⟩ := two_cells (HL2.out.ext (hx3.trans hx4)) h2
    have HISO := Lib.hid (fun i hi => spl_iso hs (i := i) hi)
    have HFIT := Lib.hid (fun t i hi j hj => spl_fit t hs (i := i) (j := j) hi hj)
    have HK := Lib.hid (fun l W (q : Mat W A1 c1 D) => iIsolated_any A1 c1 D l W q)
    have HT := Lib.hid (fun W (q : Mat W A1 c1 D) => iTreeOk_any A1 c1 D W q)
    have HFC := Lib.hid (fun a b W (q : Mat W A1 c1 D) => iFitTogether_any A1 c1 D a b W q)
    obtain ⟨R, hR⟩ : ∃ R, splD D = R := ⟨_, rfl⟩
    rw [hR] at h2 HISO HFIT hA hrow hcell
    rw [hR]
    have h32 := h2.1
    have HA := Lib.hid hA
    have HROW := Lib.hid hrow
    have HCE := Lib.hid hcell
    have HM4 := Lib.hid (HM.out.ext ((hx2.trans hx3).trans hx4))
    have hxa : Ext w w4 := (by repeat (first | exact Ext.refl _ | assumption | apply Ext.drewN' | apply Ext.alloc' | refine Ext.trans ?_ (by assumption)))
    clear hs HE HL2 HL3 HM hA hrow hcell h2 hR HV hx hx2 hx3 hx4
    go_wp2_with fail
    refine (q_ext (HSO.out _ (HM4.out.ext (by repeat (first | exact Ext.refl _ | assumption | apply Ext.drewN' | apply Ext.alloc' | refine Ext.trans ?_ (by assumption)))))).mono ?_
    rintro e w5 ⟨rfl, hx5⟩
    clear HSO
    go_wp2
    go_loopg [5] (R.length) (fun g s5 wr => ∃ (k : Nat), k + g = R.length ∧ s5 = .int .i64 k ∧ Ext w4 wr ∧ Hid (True))
    case atStart => exact ⟨0, by omega, rfl, by repeat (first | exact Ext.refl _ | assumption | apply Ext.drewN' | apply Ext.alloc' | refine Ext.trans ?_ (by assumption)), Lib.hid (trivial)⟩
    case round =>
      obtain ⟨k, hk, rfl, hxk, Hk⟩ := hrel
      by_cases hink : k < R.length
      · obtain ⟨gk, rfl⟩ : ∃ g', gk = g' + 1 := ⟨gk - 1, by omega⟩
        have hink' : (k : Int) < (R.length : Nat) := by omega
        obtain rfl := HA.out (by omega)
        have HISOk := Lib.hid (HISO.out k hink)
        obtain ⟨f1, f2, f3⟩ := HISOk.out
        have HKk := Lib.hid (HK.out (at2 R k 0))
        rw [f1] at HKk
        have HROk := Lib.hid (HROW.out k hink)
        have HCEk := Lib.hid (HCE.out k hink)
        have HFITk := Lib.hid (fun t => HFIT.out t k hink)
        obtain ⟨lk, hlk⟩ : ∃ x, at2 R k 0 = x := ⟨_, rfl⟩
        obtain ⟨vk, hvk⟩ : ∃ x, at2 R k 1 = x := ⟨_, rfl⟩
        rw [hlk] at HKk HCEk HFITk
        rw [hvk] at HKk HCEk f2 f3
        clear HISOk f1 hlk hvk
        have hle0 : ¬ vk ≤ 0 := by omega
        have Hx1 := Lib.hid (show Ext w4 wr from hxk)
        have r1 : ∀ x : EW wr, x.to.cell? _ = _ := fun x => (Hx1.out.trans x.ok).cell HROk.out
        have c1' : ∀ x : EW wr, x.to.cell? _ = _ := fun x => (Hx1.out.trans x.ok).cell HCEk.out.1
        have c2' : ∀ x : EW wr, x.to.cell? _ = _ := fun x => (Hx1.out.trans x.ok).cell HCEk.out.2
        go_wp2_with fail
        refine wp_region_quiet_ext (by kernel_rfl) (by kernel_rfl) ?_
        repeat (go_big_quiet_step (((go_at_call 22; exact Calls.ew_of (HKk.out _ (HM4.out.ext (Hx1.out.trans (EW.ok _))))))))
        refine wpQuiet_nil ?_
        intro _ hw'
        obtain ⟨⟨wq, hq⟩, hw''⟩ := hw'
        subst hw''
        clear r1 c1' c2'
        have hx4q := Hx1.out.trans hq
        clear hq Hx1 hxk
        go_wp2
        go_loopg [6] (k) (fun g s6 wr => ∃ (j : Nat), j + g = k ∧ s6 = .int .i64 j ∧ Ext w4 wr ∧ Hid (True))
        case atStart => exact ⟨0, by omega, rfl, by repeat (first | exact Ext.refl _ | assumption | apply Ext.drewN' | apply Ext.alloc' | refine Ext.trans ?_ (by assumption)), Lib.hid (trivial)⟩
        case round =>
          obtain ⟨j, hj, rfl, hxj, Hj⟩ := hrel
          by_cases hinj : j < k
          · obtain ⟨gj, rfl⟩ : ∃ g', gk = g' + 1 := ⟨gk - 1, by omega⟩
            have hinj' : (j : Int) < (k : Nat) := by omega
            have hjn : j < R.length := by omega
            have hjn' : (j : Int) < (R.length : Nat) := by omega
            have hfit := fun t => HFITk.out t j hjn
            have HROj := Lib.hid (HROW.out j hjn)
            have HCEj := Lib.hid (HCE.out j hjn)
            obtain ⟨lj, hlj⟩ : ∃ x, at2 R j 0 = x := ⟨_, rfl⟩
            rw [hlj] at hfit HCEj
            clear hlj
            have Hx1 := Lib.hid (show Ext w4 wr from hxj)
            have HFCk := Lib.hid (HFC.out lk lj)
            have r1 : ∀ x : EW wr, x.to.cell? _ = _ := fun x => (Hx1.out.trans x.ok).cell HROk.out
            have c1' : ∀ x : EW wr, x.to.cell? _ = _ := fun x => (Hx1.out.trans x.ok).cell HCEk.out.1
            have r2 : ∀ x : EW wr, x.to.cell? _ = _ := fun x => (Hx1.out.trans x.ok).cell HROj.out
            have c2' : ∀ x : EW wr, x.to.cell? _ = _ := fun x => (Hx1.out.trans x.ok).cell HCEj.out.1
            cases ht : treeB D with
            | false =>
              have HTf := Lib.hid HT.out
              rw [ht] at HTf
              clear ht hfit
              go_wp2_with fail
              refine wp_region_quiet_ext (by kernel_rfl) (by kernel_rfl) ?_
              repeat (go_big_quiet_step (((go_at_call 23; exact Calls.ew_of (HTf.out _ (HM4.out.ext (Hx1.out.trans (EW.ok _))))))))
              refine wpQuiet_nil ?_
              intro _ hw'
              obtain ⟨⟨wq, hq⟩, hw''⟩ := hw'
              subst hw''
              have hx4r := Hx1.out.trans hq
              clear r1 c1' r2 c2'
              go_wp2
              go_roundg gj
              case measure => omega
              case rel => exact ⟨j + 1, by omega, by go_num, by repeat (first | exact Ext.refl _ | assumption | apply Ext.drewN' | apply Ext.alloc' | refine Ext.trans ?_ (by assumption)), Lib.hid (by trivial)⟩
            | true =>
              have HTt := Lib.hid HT.out
              rw [ht] at HTt
              rw [hfit ht] at HFCk
              clear ht hfit
              go_wp2_with fail
              refine wp_region_quiet_ext (by kernel_rfl) (by kernel_rfl) ?_
              repeat (go_big_quiet_step (((first | (go_at_call 23; exact Calls.ew_of (HTt.out _ (HM4.out.ext (Hx1.out.trans (EW.ok _))))) | (go_at_call 24; exact Calls.ew_of (q_ext (HFCk.out _ (HM4.out.ext (Hx1.out.trans (EW.ok _))))))))))
              refine wpQuiet_nil ?_
              intro _ hw'
              obtain ⟨⟨wq, hq⟩, hw''⟩ := hw'
              subst hw''
              have hx4r := Hx1.out.trans hq
              clear r1 c1' r2 c2'
              go_wp2
              go_roundg gj
              case measure => omega
              case rel => exact ⟨j + 1, by omega, by go_num, by repeat (first | exact Ext.refl _ | assumption | apply Ext.drewN' | apply Ext.alloc' | refine Ext.trans ?_ (by assumption)), Lib.hid (by trivial)⟩
          · have hinj' : ¬ (j : Int) < (k : Nat) := by omega
            obtain rfl : gk = 0 := by omega
            go_wp2
            go_roundg gk
            case measure => omega
            case rel => exact ⟨k + 1, by omega, by go_num, by repeat (first | exact Ext.refl _ | assumption | apply Ext.drewN' | apply Ext.alloc' | refine Ext.trans ?_ (by assumption)), Lib.hid (by trivial)⟩
      · have hink' : ¬ (k : Int) < (R.length : Nat) := by omega
        obtain rfl : gk = 0 := by omega
        clear HISO HFIT HK HT HFC HROW HCE HA
        go_wp2_with fail
        refine (alive_any _).mono ?_
        rintro e w9 ⟨rfl, hx9⟩
        go_wp2
        go_ret
        exact ⟨rfl, hxa.trans (by repeat (first | exact Ext.refl _ | assumption | apply Ext.drewN' | apply Ext.alloc' | refine Ext.trans ?_ (by assumption)))⟩
section
open Go.ChangeShapes Go.WideShapes Go.ChangeAt Go.Deep
set_option maxRecDepth 100000 in
theorem FnSplitsOf_contract (H : Type) (enc : TypeId × Value → H) (W : World) (base : Nat) (args : Array Value) (ds gs : List (DataW H)) (before : List MemPlace)
    (hval : ∀ (j : Nat) t v, Try.f5.params[j]? = some t → args[j]? = some v → Value.okWide Try.prog W .any base t v)
    (hW : DataW.Whole enc Try.prog Try.f5.params.toList Rows.fnSplitsOfSpec.vars false W args.toList ds gs before) :
    Calls Try.prog 5 args W fun e W' => ∃ v, e = .returned v ∧ Rows.fnSplitsOfSpec.post enc Try.prog Try.f5 false true false false W args v W' := by
  have hW' := hW
  obtain ⟨p, q, hA0, hV, rfl, hfz, hnd⟩ := hW
  have hA : DataW.TrodAll enc Try.prog W 0 (fun _ => true) true Try.f5.params.toList args.toList ds p := hA0
  rw [Try.params5] at hA hval
  obtain ⟨v0, vs0, d0, ds0, p0, q0, hargs0, rfl, rfl, h0, r0⟩ := trodAll_cons hA
  obtain ⟨hargsn, rfl, rfl⟩ := trodAll_nil r0
  obtain rfl : args = #[v0] := by cases args; simp_all
  obtain ⟨rfl, rfl⟩ := trodVars_none hV
  clear hA0
  obtain ⟨A0, code, c0, rfl, M0⟩ := read_bytes (hval 0 22 v0 rfl rfl) h0
  refine (FnSplitsOf_walk A0 code c0 W M0).mono fun e W' ⟨he, hx⟩ => ⟨_, he, post_law laidOut (by rw [Try.params5]; decide +kernel) rfl rfl Try.underlying4 hW' rfl hx⟩
set_option maxRecDepth 100000 in
theorem FnSplitsOf_lifted (os : Os) (started : os.Started) (H : Type) (enc : TypeId × Value → H) :
    ReturnsInHanded {} Try.checked os 5 .any (Rows.fnSplitsOfSpec.pre6 enc Try.prog Try.f5 Rows.fnSplitsOfRow.domain false) (Rows.fnSplitsOfSpec.post enc Try.prog Try.f5 false true false false) := by
  refine returnsInHanded_of_change (C := Try.checked) own started (by kernel_rfl) Try.func5
    (ChangeSpec.witness6 (enc := enc) (C := Try.checked) false ⟨#[], #[.slice none 0 0], []⟩ 8 (by kernel_rfl) (by kernel_rfl) (by kernel_rfl) (by kernel_rfl) rfl) ?_
  intro W base args ds gs before hval hW _ _
  exact FnSplitsOf_contract H enc W base args ds gs before hval hW
theorem FnSplitsOf_holds : Rows.FnSplitsOfSaid :=
  OpenClaim.holds_of_wide 5 Try.f5 rfl rfl rfl rfl rfl rfl rfl ⟨rfl, rfl, rfl, rfl, rfl⟩ rfl rfl rfl rfl rfl (by kernel_rfl) Try.func5 (by kernel_rfl)
    (of_decide_eq_true (by kernel_rfl)) (by unfold Func.isWrapper; first | (rw [if_pos (by decide +kernel)]; kernel_rfl) | (rw [if_neg (by decide +kernel)]; exact ⟨rfl, rfl⟩))
    (fun os started H enc _ => FnSplitsOf_lifted os started H enc)
end
end Go.Proofs.Ytimelegkgaimjaa
