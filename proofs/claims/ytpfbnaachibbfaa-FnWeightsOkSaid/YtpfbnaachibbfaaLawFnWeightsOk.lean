/- What is proved: the law FnWeightsOk returns true for every input, and its argument reads behind the call as before. No condition. -/
import Derived.Test.YtpfbnaachibbfaaDrWt
import Derived.Test.YtpfbnaachibbfaaAlive
import Derived.Test.YtpfbnaachibbfaaWeights
namespace Go.Proofs.Ytpfbnaachibbfaa
open Go.RowKit
/-- rows and numbers drawn, to be read -/
def ReadW (w : World) (e : Ending) (w' : World) : Prop :=
  ∃ A c D A2 c2 ws, e = .returned (.tuple #[.slice A (List.length D) c, .slice A2 (List.length ws) c2]) ∧ Mat w' A c D ∧ D.length ≤ 6 ∧ Ints w' A2 c2 ws ∧ ws.length ≤ 7 ∧ Ext w w'
theorem two_cell {W W' : World} {g : Nat} {v x y : Int} (h : Only (fun k => k = g) (W.alloc (.cells #[.int .i64 x, .int .i64 y] 3)) W') (hg : g < W.heap.size) (h0 : 0 ≤ v) (h1 : v < 2 ∨ v = 0) :
    ∃ z : Int, W'.cell? ⟨W.heap.size, v.toNat, none⟩ = some (.int .i64 z) := by
  have hb : W'.heap[W.heap.size]? = some (.cells #[.int .i64 x, .int .i64 y] 3 (0, 0)) := by
    rw [h.2.2.2.2 W.heap.size (by omega)]
    exact heap_alloc_new W _
  rw [cell_cells hb]
  rcases (show v = 0 ∨ v = 1 by omega) with rfl | rfl
  · exact ⟨x, rfl⟩
  · exact ⟨y, rfl⟩
set_option maxRecDepth 100000 in
set_option maxHeartbeats 2000000 in
theorem drawWeightsOk_any (A : Option Addr) (n c : Nat) (w : World) (h : Byt w A n c) :
    Calls Try.prog 43 #[.slice A n c] w (ReadW w) := by
  go_enter Try.func43, Try.ntmps43
  go_wp2_with fail
  refine (open_any A n c w h).mono ?_
  rintro e w1 ⟨g, rfl, hx1, hg, hR⟩
  have hlt := hR.lt
  have HR := Lib.hid hR
  have HX := Lib.hid hx1
  clear hR hx1
  go_wp2_with fail
  refine (l20Weighted_any HR.out (Nat.le_refl _) (by omega)).mono ?_
  rintro e w2 ⟨A1, c1, D, A2, c2, ws, b, rfl, hU, hD, hb1, hb2, hO, hl7, hR2, hX2⟩
  have HU := Lib.hid hU
  have HO := Lib.hid hO
  have HR2 := Lib.hid hR2
  have HX2 := Lib.hid hX2
  have hlc := hO.ints.2.1
  have hmx := hO.ints.2.2.1
  unfold maxLen at hmx
  clear hU hO hR2 hX2 HR
  by_cases h0 : 0 < ws.length
  · have h0' : (0 : Int) < (ws.length : Nat) := by omega
    go_wp2_with fail
    refine (pickU HR2.out 3 (by omega) (by omega) (by omega)).mono ?_
    rintro e w3 ⟨v, rfl, v0, v1, hR3, hO3⟩
    have HR3 := Lib.hid hR3
    have HU3 := Lib.hid (HU.out.rd hO3)
    have HX3 := Lib.hid (HX2.out.rd hO3)
    have SZ3 := Lib.hid (show w3.heap.size = w2.heap.size from hO3.2.2.2.1)
    have HO3 := Lib.hid (HO.out.keep fun q hq hq2 => hO3.2.2.2.2 q (by have := (HO.out.ge hq).1; omega))
    clear hR3 hO3 HR2 HU HX2 HO
    by_cases z : v = 0
    · subst z
      clear v0 v1
      go_wp2_with fail
      have sz3 := SZ3.out
      refine (pickU (HR3.out.ext (Ext.alloc _ _) (by omega)) 2 (by omega) (by omega) (by omega)).mono ?_
      rintro e w4 ⟨p, rfl, p0, p1, hR4, hO4⟩
      obtain ⟨z, hz⟩ := two_cell hO4 (by omega) p0 p1
      have hO5 := (show OwnI b w4 (.slice A2 ws.length c2) ws from (HO3.out.keep (W' := w3.alloc (.cells #[.int .i64 (-1), .int .i64 10] 3)) fun q hq hq2 => Below.heap_alloc _ _ _ hq2).keep fun q hq hq2 => hO4.2.2.2.2 q (by have := (HO3.out.ge hq).1; omega))
      obtain ⟨q, rfl, cc, ff, qb, hset⟩ := hO5.set h0
      have HF := Lib.hid (show ∀ x : Int, ReadW w (.returned (.tuple #[.slice A1 D.length c1, .slice (some ⟨q, 0, none⟩) ws.length c2])) (w4.setCell ⟨q, 0, none⟩ (.int .i64 x)) from fun x =>
        ⟨A1, c1, D, _, c2, ws.set 0 x, by simp, (((HU3.out.ext (by omega) (Ext.alloc _ _)).rd hO4).set (p := ⟨q, 0, none⟩) qb _).mat, hD, (hset x).ints.2, by simpa using hl7, ((((HX3.out.alloc _).rd hO4).ext HX.out hg).setCell' (by show w.heap.size ≤ q; have := HX.out.size; omega) _)⟩)
      clear hR4 hO4 hO5 hset HR3 HU3 HX3 HO3 sz3
      go_wp2
      go_ret2
      exact HF.out _
    · have z' : (v == 0) = false := beq_eq_false_iff_ne.2 z
      clear z v0 v1
      go_wp2
      go_ret2
      exact ⟨A1, c1, D, A2, c2, ws, rfl, HU3.out.mat, hD, HO3.out.ints.2, hl7, HX3.out.ext HX.out hg⟩
  · have h0' : ¬ (0 : Int) < (ws.length : Nat) := by omega
    go_wp2
    go_ret2
    exact ⟨A1, c1, D, A2, c2, ws, rfl, HU.out.mat, hD, HO.out.ints.2, hl7, HX2.out.ext HX.out hg⟩
theorem weights_zero (D : List (List Int)) : weightsB D (List.replicate D.length 0) = spB D := by
  unfold weightsB wtB
  rw [(allR_all _ _).2 fun i hi => by rw [ix_rep]; rfl, decide_eq_true (by simp)]
  simp
set_option maxRecDepth 100000 in
set_option maxHeartbeats 2000000 in
theorem FnWeightsOk_walk (A : Option Addr) (n c : Nat) (w : World) (h : Byt w A n c) :
    Calls Try.prog 8 #[.slice A n c] w fun e w' => e = .returned (.bool true) ∧ Ext w w' := by
  by_cases hz : 1048576 < n
  · have hz' : (1048576 : Int) < (n : Nat) := by omega
    go_enter Try.func8, Try.ntmps8
    go_wp2
    go_ret
    exact ⟨rfl, (by repeat (first | exact Ext.refl _ | assumption | apply Ext.drewN' | apply Ext.alloc' | refine Ext.trans ?_ (by assumption)))⟩
  have hz' : ¬ (1048576 : Int) < (n : Nat) := by omega
  go_enter Try.func8, Try.ntmps8
  go_wp2_with fail
  refine (drawWeightsOk_any A n c w h).mono ?_
  rintro e w1 ⟨A1, c1, D, A2, c2, ws, rfl, hM, hD, hI, hl7, hx1⟩
  have hlc := hM.1
  have hmx := hM.2.1
  have HM := Lib.hid hM
  have HI := Lib.hid hI
  have hx : Ext w w1 := hx1
  clear hM hI hx1
  have hmk := run_make_row' (P := Try.prog) 23 3 (.int .i64 0) 8 Try.underlying23 infoI rfl .i64 .i64 D.length (by omega) (by omega)
  go_wp2_with fail
  refine (q_ext (iWeightsOk_any A1 c1 D A2 c2 ws _ (HM.out.ext (by repeat (first | exact Ext.refl _ | assumption | apply Ext.drewN' | apply Ext.alloc' | refine Ext.trans ?_ (by assumption)))) (HI.out.ext (by repeat (first | exact Ext.refl _ | assumption | apply Ext.drewN' | apply Ext.alloc' | refine Ext.trans ?_ (by assumption)))))).mono ?_
  rintro e w2 ⟨rfl, hx2⟩
  go_wp2_with fail
  refine (q_ext (sWeightsOk_any A1 c1 D A2 c2 ws _ (HM.out.ext (by repeat (first | exact Ext.refl _ | assumption | apply Ext.drewN' | apply Ext.alloc' | refine Ext.trans ?_ (by assumption)))) (HI.out.ext (by repeat (first | exact Ext.refl _ | assumption | apply Ext.drewN' | apply Ext.alloc' | refine Ext.trans ?_ (by assumption)))))).mono ?_
  rintro e w3 ⟨rfl, hx3⟩
  have HC := Lib.hid (show ∀ W : World, Mat W A1 c1 D → Ints W (some ⟨w3.heap.size, 0, none⟩) D.length (List.replicate D.length 0) → Calls Try.prog 44 #[.slice A1 D.length c1, .slice (some ⟨w3.heap.size, 0, none⟩) D.length D.length] W fun e w' => e = .returned (.bool (spB D)) ∧ Ext W w' from fun W q1 q2 => by
    have := q_ext (iWeightsOk_any A1 c1 D _ _ _ W q1 q2)
    rw [weights_zero, List.length_replicate] at this
    exact this)
  have HL := Lib.hid (show Ints (w3.alloc (.cells (madeCells #[.int .i64 0] D.length) 3)) (some ⟨w3.heap.size, 0, none⟩) D.length (List.replicate D.length 0) from by
    obtain ⟨A', c', e, hI⟩ := (zero_leaf w3 D.length (by omega)).ints
    rw [List.length_replicate] at e
    injection e with e1 e2 e3
    subst e1; subst e3
    exact hI)
  go_wp2_with fail
  refine (HC.out _ (HM.out.ext (by repeat (first | exact Ext.refl _ | assumption | apply Ext.drewN' | apply Ext.alloc' | refine Ext.trans ?_ (by assumption)))) HL.out).mono ?_
  rintro e w4 ⟨rfl, hx4⟩
  clear hmk
  go_wp2_with fail
  refine (q_ext (iSpaceOk_any A1 c1 D _ (HM.out.ext (by repeat (first | exact Ext.refl _ | assumption | apply Ext.drewN' | apply Ext.alloc' | refine Ext.trans ?_ (by assumption)))))).mono ?_
  rintro e w5 ⟨rfl, hx5⟩
  go_wp2_with fail
  refine (alive_any _).mono ?_
  rintro e w7 ⟨rfl, hx7⟩
  go_wp2
  go_ret
  exact ⟨rfl, (by repeat (first | exact Ext.refl _ | assumption | apply Ext.drewN' | apply Ext.alloc' | refine Ext.trans ?_ (by assumption)))⟩
section
open Go.ChangeShapes Go.WideShapes Go.ChangeAt Go.Deep
theorem FnWeightsOk_contract (H : Type) (enc : TypeId × Value → H) (W : World) (base : Nat) (args : Array Value) (ds gs : List (DataW H)) (before : List MemPlace)
    (hval : ∀ (j : Nat) t v, Try.f8.params[j]? = some t → args[j]? = some v → Value.okWide Try.prog W .any base t v)
    (hW : DataW.Whole enc Try.prog Try.f8.params.toList Rows.fnWeightsOkSpec.vars false W args.toList ds gs before) :
    Calls Try.prog 8 args W fun e W' => ∃ v, e = .returned v ∧ Rows.fnWeightsOkSpec.post enc Try.prog Try.f8 false true false false W args v W' := by
  have hW' := hW
  obtain ⟨p, q, hA0, hV, rfl, hfz, hnd⟩ := hW
  have hA : DataW.TrodAll enc Try.prog W 0 (fun _ => true) true Try.f8.params.toList args.toList ds p := hA0
  rw [Try.params8] at hA hval
  obtain ⟨v0, vs0, d0, ds0, p0, q0, hargs0, rfl, rfl, h0, r0⟩ := trodAll_cons hA
  obtain ⟨hargsn, rfl, rfl⟩ := trodAll_nil r0
  obtain rfl : args = #[v0] := by cases args; simp_all
  obtain ⟨rfl, rfl⟩ := trodVars_none hV
  clear hA0
  obtain ⟨A0, code, c0, rfl, M0⟩ := read_bytes (hval 0 32 v0 rfl rfl) h0
  refine (FnWeightsOk_walk A0 code c0 W M0).mono fun e W' ⟨he, hx⟩ => ⟨_, he, post_law laidOut (by rw [Try.params8]; decide +kernel) rfl rfl Try.underlying4 hW' rfl hx⟩
set_option maxRecDepth 100000 in
theorem FnWeightsOk_lifted (os : Os) (started : os.Started) (H : Type) (enc : TypeId × Value → H) :
    ReturnsInHanded {} Try.checked os 8 .any (Rows.fnWeightsOkSpec.pre6 enc Try.prog Try.f8 Rows.fnWeightsOkRow.domain false) (Rows.fnWeightsOkSpec.post enc Try.prog Try.f8 false true false false) := by
  refine returnsInHanded_of_change (C := Try.checked) own started (by kernel_rfl) Try.func8
    (ChangeSpec.witness6 (enc := enc) (C := Try.checked) false ⟨#[], #[.slice none 0 0], []⟩ 8 (by kernel_rfl) (by kernel_rfl) (by kernel_rfl) (by kernel_rfl) rfl) ?_
  intro W base args ds gs before hval hW _ _
  exact FnWeightsOk_contract H enc W base args ds gs before hval hW
theorem FnWeightsOk_holds : Rows.FnWeightsOkSaid :=
  OpenClaim.holds_of_wide 8 Try.f8 rfl rfl rfl rfl rfl rfl rfl ⟨rfl, rfl, rfl, rfl, rfl⟩ rfl rfl rfl rfl rfl (by kernel_rfl) Try.func8 (by kernel_rfl)
    (of_decide_eq_true (by kernel_rfl)) (by unfold Func.isWrapper; first | (rw [if_pos (by decide +kernel)]; kernel_rfl) | (rw [if_neg (by decide +kernel)]; exact ⟨rfl, rfl⟩))
    (fun os started H enc _ => FnWeightsOk_lifted os started H enc)
end
end Go.Proofs.Ytpfbnaachibbfaa
