/- What is proved: the law FnUnlikeBy returns true for every input, and its argument reads behind the call as before. No condition. -/
import Derived.Test.YtimelegkgaimjaaDrUnl
import Derived.Test.YtimelegkgaimjaaUnlI
import Derived.Test.YtimelegkgaimjaaUnlP
import Derived.Test.YtimelegkgaimjaaAlive
namespace Go.Proofs.Ytimelegkgaimjaa
open Go.RowKit
theorem RowsW.fin {P : List (List Int)} {w0 W : World} {v : Value} (h : RowsW P w0 W v P.length) : ∃ A c, v = .slice A (swP P).length c ∧ Mat W A c (swP P) := by
  obtain ⟨V, hV⟩ := h
  rw [List.take_of_length_le (by rw [swP_len]; exact Nat.le_refl _)] at hV
  obtain ⟨A, c, V', e, hL, -, -, -⟩ := hV.done
  exact ⟨A, c, by injection e, hL.mat⟩
set_option maxRecDepth 100000 in
set_option maxHeartbeats 8000000 in
theorem FnUnlikeBy_walk (A : Option Addr) (n c : Nat) (w : World) (h : Byt w A n c) :
    Calls Try.prog 3 #[.slice A n c] w fun e w' => e = .returned (.bool true) ∧ Ext w w' := by
  by_cases hz : 1048576 < n
  · have hz' : (1048576 : Int) < (n : Nat) := by omega
    go_enter Try.func3, Try.ntmps3
    go_wp2
    go_ret
    exact ⟨rfl, (by repeat (first | exact Ext.refl _ | assumption | apply Ext.drewN' | apply Ext.alloc' | refine Ext.trans ?_ (by assumption)))⟩
  have hz' : ¬ (1048576 : Int) < (n : Nat) := by omega
  go_enter Try.func3, Try.ntmps3
  go_wp2_with fail
  refine (drawUnlikeBy_any A n c w h).mono ?_
  rintro e w1 ⟨A1, c1, D, A2, c2, E, A3, c3, P, rfl, hM1, hM2, hM3, hp, hx1⟩
  have HM1 := Lib.hid hM1
  have HM2 := Lib.hid hM2
  have HM3 := Lib.hid hM3
  have HPP := Lib.hid hp
  have hx : Ext w w1 := hx1
  clear hx1 hM1 hM2 hM3 hp
  go_wp2_with fail
  refine (iUnlikeBy_any A1 c1 D A2 c2 E A3 c3 P _ HM1.out HM2.out HM3.out HPP.out).mono ?_
  rintro e w2 ⟨rfl, hx2⟩
  go_wp2_with fail
  refine (sUnlikeBy_any A1 c1 D A2 c2 E A3 c3 P _ (HM1.out.ext hx2) (HM2.out.ext hx2) (HM3.out.ext hx2) HPP.out).mono ?_
  rintro e w3 ⟨rfl, m3, rfl⟩
  by_cases hok : spB D = true ∧ spB E = true ∧ okU D E P
  rotate_left
  · rw [unlV_no hok]
    clear hok
    go_wp2_with fail
    refine (alive_any _).mono ?_
    rintro e w7 ⟨rfl, hx7⟩
    go_wp2
    go_ret
    exact ⟨rfl, ((hx.trans hx2).drewN' _).trans hx7⟩
  · rw [unlV_yes hok]
    obtain ⟨hs, ht, hu⟩ := hok
    obtain ⟨U0, U60⟩ := unl_bd hs ht hu.1
    obtain ⟨W0, W60⟩ := wid_bd hs
    obtain ⟨Y0, Y60⟩ := wid_bd ht
    have hw1 := wid_le hs ht hu
    have hw2 := wid_le ht hs (swP_ok hu)
    rw [swP_unl] at hw2
    have HV := Lib.hid (show unlV E D (swP P) = unlI D E P by rw [unlV_yes ⟨ht, hs, swP_ok hu⟩, swP_unl])
    have HSW := Lib.hid (swP_pair HPP.out)
    have HLS := Lib.hid (swP_len P)
    have HWD := Lib.hid (fun W (q : Mat W A1 c1 D) => iWidthOf_any A1 c1 D W q hs)
    have HWE := Lib.hid (fun W (q : Mat W A2 c2 E) => iWidthOf_any A2 c2 E W q ht)
    have h9 := HPP.out.1
    have HX4 := Lib.hid (show Ext w1 (w2.drewN m3) from hx2.drewN' _)
    have HXA := Lib.hid ((hx.trans hx2).drewN' m3)
    obtain ⟨w4, hw4⟩ : ∃ w4, w2.drewN m3 = w4 := ⟨_, rfl⟩
    rw [hw4] at HX4 HXA
    rw [hw4]
    obtain ⟨b3, o3, rc3, rb3, ro3, hA3, hrow3, hcell3, hlen3⟩ := pair_cells (HM3.out.ext HX4.out) fun i hi => (HPP.out.2 i hi).1
    have R3 := Lib.hid hrow3
    have L3 := Lib.hid hlen3
    have C3 := Lib.hid hcell3
    have HA3 := Lib.hid hA3
    have HM14 := Lib.hid (HM1.out.ext HX4.out)
    have HM24 := Lib.hid (HM2.out.ext HX4.out)
    obtain ⟨U, hU⟩ : ∃ U, unlI D E P = U := ⟨_, rfl⟩
    rw [hU] at U0 U60 hw1 hw2 HV
    rw [hU]
    obtain ⟨X, hX⟩ : ∃ X, widI D = X := ⟨_, rfl⟩
    obtain ⟨Y, hY⟩ : ∃ X, widI E = X := ⟨_, rfl⟩
    rw [hX] at W0 W60 hw1 hw2 HWD
    rw [hY] at Y0 Y60 hw1 hw2 HWE
    clear hs ht hu hU hX hY hA3 hrow3 hcell3 hlen3 HM1 HM2 HM3 HX4 hx hx2 hw4
    go_wp2
    go_loopg [8, 7] P.length (fun g s8 s7 wr => ∃ (k : Nat), k + g = P.length ∧ s8 = .int .i64 k ∧ Hid (RowsW P w4 wr s7 k))
    case atStart => exact ⟨0, by omega, rfl, Lib.hid ⟨fun _ => .slice none 0 0, AccM.empty (Ext.refl _) _⟩⟩
    case round =>
      obtain ⟨k, hk, rfl, HR⟩ := hrel
      have hxr := HR.out.x
      by_cases hin : k < P.length
      · obtain ⟨gk', rfl⟩ : ∃ g', gk = g' + 1 := ⟨gk - 1, by omega⟩
        have hin' : (k : Int) < (P.length : Nat) := by omega
        obtain rfl := HA3.out (by omega)
        have l3 := L3.out k hin
        have HRUN := Lib.hid (fun ty (Q : Program) (q1 : Q.underlying 23 = _) q2 => sw_run (Q := Q) (ty := ty) (E := 28) rfl q1 q2 HR.out hin h9)
        have HK2 := Lib.hid (fun W (q : Ext w4 W) => (show W.cell? ⟨b3, o3 + k, none⟩ = some (.slice (some ⟨rb3 k, ro3 k, none⟩) 2 (rc3 k)) ∧ W.cell? ⟨rb3 k, ro3 k, none⟩ = some (.int .i64 (at2 P k 0)) ∧ W.cell? ⟨rb3 k, ro3 k + 1, none⟩ = some (.int .i64 (at2 P k 1)) from ⟨q.cell (R3.out k hin), q.cell (C3.out k hin).1, q.cell (C3.out k hin).2⟩))
        obtain ⟨x, hx⟩ : ∃ x, at2 P k 0 = x := ⟨_, rfl⟩
        obtain ⟨y, hy⟩ : ∃ x, at2 P k 1 = x := ⟨_, rfl⟩
        rw [hx, hy] at HRUN
        rw [hx, hy] at HK2
        clear hx hy
        go_wp2_with fail
        go_region_held3 (fun W => W.cell? ⟨b3, o3 + k, none⟩ = some (.slice (some ⟨rb3 k, ro3 k, none⟩) 2 (rc3 k)) ∧ W.cell? ⟨rb3 k, ro3 k, none⟩ = some (.int .i64 x) ∧ W.cell? ⟨rb3 k, ro3 k + 1, none⟩ = some (.int .i64 y))
          (exact HK2.out _ (by repeat (first | assumption | with_reducible exact Ext.refl _ | with_reducible apply Ext.drewN' | with_reducible apply Ext.drew2' | with_reducible apply Ext.alloc')))
          ((refine step_ex rfl _ _ rfl _ (.slice (some ⟨_, 0, none⟩) 1 1) rfl rfl (HRUN.out _ _ Try.underlying23 infoR) ?_; rintro v6 w6 hP6; have hx6 := hP6.x))
        all_goals
          go_wp2
          go_roundg gk'
          case measure => omega
          case rel => exact ⟨k + 1, by omega, by go_num, Lib.hid hP6⟩
      · have hin' : ¬ (k : Int) < (P.length : Nat) := by omega
        obtain rfl : gk = 0 := by omega
        obtain rfl : k = P.length := by omega
        obtain ⟨A9, c9, e9, hM9⟩ := RowsW.fin HR.out
        subst e9
        have HM9 := Lib.hid hM9
        clear hM9 HR R3 L3 C3 HA3
        go_wp2_with fail
        refine (HWD.out _ (HM14.out.ext hxr)).mono ?_
        rintro e w5 ⟨rfl, m5, rfl⟩
        go_wp2_with fail
        refine (HWE.out _ (HM24.out.ext (hxr.drewN' _))).mono ?_
        rintro e w6 ⟨rfl, m6, rfl⟩
        go_wp2_with fail
        refine (iUnlikeBy_any A2 c2 E A1 c1 D A9 c9 (swP P) _ (HM24.out.ext (hxr.drewN' _)) (HM14.out.ext (hxr.drewN' _)) (HM9.out.ext (Ext.drewN _ _)) HSW.out).mono ?_
        rintro e w7 ⟨rfl, hx7⟩
        rw [HV.out]
        have d1 : X - Y ≤ U := hw1
        have d2 : -(X - Y) ≤ U := by omega
        go_wp2
        go_ret
        exact ⟨rfl, (HXA.out.trans (hxr.drewN' _)).trans hx7⟩
section
open Go.ChangeShapes Go.WideShapes Go.ChangeAt Go.Deep
set_option maxRecDepth 100000 in
theorem FnUnlikeBy_contract (H : Type) (enc : TypeId × Value → H) (W : World) (base : Nat) (args : Array Value) (ds gs : List (DataW H)) (before : List MemPlace)
    (hval : ∀ (j : Nat) t v, Try.f3.params[j]? = some t → args[j]? = some v → Value.okWide Try.prog W .any base t v)
    (hW : DataW.Whole enc Try.prog Try.f3.params.toList Rows.fnUnlikeBySpec.vars false W args.toList ds gs before) :
    Calls Try.prog 3 args W fun e W' => ∃ v, e = .returned v ∧ Rows.fnUnlikeBySpec.post enc Try.prog Try.f3 false true false false W args v W' := by
  have hW' := hW
  obtain ⟨p, q, hA0, hV, rfl, hfz, hnd⟩ := hW
  have hA : DataW.TrodAll enc Try.prog W 0 (fun _ => true) true Try.f3.params.toList args.toList ds p := hA0
  rw [Try.params3] at hA hval
  obtain ⟨v0, vs0, d0, ds0, p0, q0, hargs0, rfl, rfl, h0, r0⟩ := trodAll_cons hA
  obtain ⟨hargsn, rfl, rfl⟩ := trodAll_nil r0
  obtain rfl : args = #[v0] := by cases args; simp_all
  obtain ⟨rfl, rfl⟩ := trodVars_none hV
  clear hA0
  obtain ⟨A0, code, c0, rfl, M0⟩ := read_bytes (hval 0 22 v0 rfl rfl) h0
  refine (FnUnlikeBy_walk A0 code c0 W M0).mono fun e W' ⟨he, hx⟩ => ⟨_, he, post_law laidOut (by rw [Try.params3]; decide +kernel) rfl rfl Try.underlying4 hW' rfl hx⟩
set_option maxRecDepth 100000 in
theorem FnUnlikeBy_lifted (os : Os) (started : os.Started) (H : Type) (enc : TypeId × Value → H) :
    ReturnsInHanded {} Try.checked os 3 .any (Rows.fnUnlikeBySpec.pre6 enc Try.prog Try.f3 Rows.fnUnlikeByRow.domain false) (Rows.fnUnlikeBySpec.post enc Try.prog Try.f3 false true false false) := by
  refine returnsInHanded_of_change (C := Try.checked) own started (by kernel_rfl) Try.func3
    (ChangeSpec.witness6 (enc := enc) (C := Try.checked) false ⟨#[], #[.slice none 0 0], []⟩ 8 (by kernel_rfl) (by kernel_rfl) (by kernel_rfl) (by kernel_rfl) rfl) ?_
  intro W base args ds gs before hval hW _ _
  exact FnUnlikeBy_contract H enc W base args ds gs before hval hW
theorem FnUnlikeBy_holds : Rows.FnUnlikeBySaid :=
  OpenClaim.holds_of_wide 3 Try.f3 rfl rfl rfl rfl rfl rfl rfl ⟨rfl, rfl, rfl, rfl, rfl⟩ rfl rfl rfl rfl rfl (by kernel_rfl) Try.func3 (by kernel_rfl)
    (of_decide_eq_true (by kernel_rfl)) (by unfold Func.isWrapper; first | (rw [if_pos (by decide +kernel)]; kernel_rfl) | (rw [if_neg (by decide +kernel)]; exact ⟨rfl, rfl⟩))
    (fun os started H enc _ => FnUnlikeBy_lifted os started H enc)
end
end Go.Proofs.Ytimelegkgaimjaa
