/- What is proved: the law FnExactDeskNew returns true. No condition. -/
import Derived.Test.YtpcjcgaplmlnlaaDesk0
import Derived.Test.YtpcjcgaplmlnlaaFrame
namespace Go.Proofs.Ytpcjcgaplmlnlaa
open Go.RowKit
theorem var_ext {w W : World} {x y : Value} {T : TypeId} (h : Ext (w.alloc (.cells #[x, y] T)) W) : W.heap[w.heap.size]? = some (.cells #[x, y] T (0, 0)) := by
  rw [Ext.block h (by simp)]; exact heap_alloc_new w _
theorem var_cells {W : World} {b : Nat} {x y : Value} {T : TypeId} (h : W.heap[b]? = some (.cells #[x, y] T (0, 0))) : W.cell? ⟨b, 0, none⟩ = some x ∧ W.cell? ⟨b, 1, none⟩ = some y :=
  ⟨by rw [cell_cells h]; rfl, by rw [cell_cells h]; rfl⟩
set_option maxRecDepth 100000 in
set_option maxHeartbeats 4000000 in
theorem FnExactDeskNew_walk (w : World) : Calls Try.prog 4 #[] w fun e w' => e = .returned (.bool true) ∧ Ext w w' := by
  have eM : eqM [[(0 : Int)]] [[(0 : Int)]] = true := eqM_refl _
  go_enter Try.func4, Try.ntmps4
  go_wp2_with fail
  refine (sDeskNew_any _).mono ?_
  rintro e wS ⟨AS, cS, VS, rfl, hS, dS, lS, hxS⟩
  have HS := Lib.hid hS
  clear hS
  go_wp2_with fail
  refine (iDeskNew_any _).mono ?_
  rintro e wG ⟨AG, cG, VG, rfl, hG, dG, lG, hxG⟩
  have HG := Lib.hid hG
  have hw0 := hxS.size
  have hx0 : Ext w (wG.alloc (.cells #[.slice AG 1 cG, .slice none 0 0] 26)) := ((hxS.alloc' _).trans hxG).alloc' _
  have hS2 : Ext wS (wG.alloc (.cells #[.slice AG 1 cG, .slice none 0 0] 26)) := ((Ext.alloc wS _).trans hxG).alloc' _
  have b1 : (wG.alloc (.cells #[.slice AG 1 cG, .slice none 0 0] 26)).heap[wS.heap.size]? = some (.cells #[.slice AS 1 cS, .slice none 0 0] 26 (0, 0)) := var_ext (hxG.alloc' _)
  have b2 : (wG.alloc (.cells #[.slice AG 1 cG, .slice none 0 0] 26)).heap[wG.heap.size]? = some (.cells #[.slice AG 1 cG, .slice none 0 0] 26 (0, 0)) := heap_alloc_new wG _
  obtain ⟨W, hW⟩ : ∃ W, wG.alloc (.cells #[.slice AG 1 cG, .slice none 0 0] 26) = W := ⟨_, rfl⟩
  have hGW : Ext wG W := by rw [← hW]; exact Ext.alloc _ _
  rw [hW] at hx0 hS2 b1 b2
  have HB1 := Lib.hid b1
  have HB2 := Lib.hid b2
  have HW := Lib.hid hW
  have HX0 := Lib.hid hx0
  have HMS := Lib.hid (HS.out.ext hS2)
  have lS2 : ∀ g, LV 1 VS g → g < wS.heap.size := fun g ⟨i, hi, hg⟩ => HS.out.lt hi hg
  have HMG := Lib.hid (HG.out.ext hGW)
  have lG2 : ∀ g, LV 1 VG g → wS.heap.size < g ∧ g < wG.heap.size := fun g ⟨i, hi, hg⟩ => by
    have h1 := lG i hi g hg
    have h2 := HG.out.lt hi hg
    simp at h1
    exact ⟨by omega, h2⟩
  clear hG hxS hxG hx0 hS2 b1 b2 hW HS
  obtain ⟨c1, c2⟩ := var_cells HB1.out
  rw [← HW.out] at c1 c2
  go_wp2_with fail
  have hq := eqDesk0_any AG AS cG cS [[(0 : Int)]] [[(0 : Int)]] W HMG.out.mat HMS.out.mat
  rw [HW.out]
  refine hq.mono ?_
  rw [eM]
  clear hq c1 c2
  rintro e w3 ⟨rfl, hx3⟩
  have hx03 := HX0.out.trans hx3
  obtain ⟨c3, c4⟩ := var_cells ((hx3.block (heap_lt HB2.out)).trans HB2.out)
  have HB1' := Lib.hid ((hx3.block (heap_lt HB1.out)).trans HB1.out)
  have HB2' := Lib.hid ((hx3.block (heap_lt HB2.out)).trans HB2.out)
  have HMS' := Lib.hid (HMS.out.ext hx3)
  have HMG' := Lib.hid (HMG.out.ext hx3)
  have hs3 := heap_lt HB2'.out
  go_wp2_with fail
  refine (markDesk0_any AG cG [[(0 : Int)]] VG 1 w3 HMG'.out dG (by decide) (by decide) (by decide) (by decide)).mono ?_
  rintro e w4 ⟨rfl, hm, W1, hx31, ho⟩
  rw [show (1 + ((total [[(0 : Int)]] : Nat) : Int)) = 2 from rfl]
  have hx04 : Ext w w4 := Only.ext (w := W1) (hx03.trans hx31) ho (fun g hg => by have := lG2 g hg; have := hw0; omega)
  have n1 : ¬ LV 1 VG wS.heap.size := fun k => by have := lG2 _ k; omega
  have n2 : ¬ LV 1 VG wG.heap.size := fun k => by have := lG2 _ k; omega
  have B1 : w4.heap[wS.heap.size]? = some (.cells #[.slice AS 1 cS, .slice none 0 0] 26 (0, 0)) := by
    rw [ho.2.2.2.2 _ n1, hx31.block (heap_lt HB1'.out)]; exact HB1'.out
  have B2 : w4.heap[wG.heap.size]? = some (.cells #[.slice AG 1 cG, .slice none 0 0] 26 (0, 0)) := by
    rw [ho.2.2.2.2 _ n2, hx31.block (heap_lt HB2'.out)]; exact HB2'.out
  have HS4 := Lib.hid ((HMS'.out.ext hx31).only ho (fun g hg hs => by have := lS2 g hg; have := lG2 g hs; omega) (fun g hg => (HMG'.out.ext hx31).isI hg))
  have HK4 := Lib.hid hm
  clear hm ho hx31 n1 n2 c3 c4 HB1 HB2 HB1' HB2' HMS HMG HMS' HMG' HX0 HW hx3 hGW hx03 hs3
  have HB1 := Lib.hid B1
  have HB2 := Lib.hid B2
  clear B1 B2
  obtain ⟨c3, c4⟩ := var_cells HB2.out
  go_wp2_with fail
  refine (heldDesk0_any AG cG [[(0 : Int)]] VG 1 w4 HK4.out (by decide) (by decide) (by decide) (by decide)).mono ?_
  rw [show (1 + ((total [[(0 : Int)]] : Nat) : Int)) = 2 from rfl]
  rintro e w5 ⟨rfl, hx5⟩
  clear c3 c4
  go_wp2_with fail
  refine (iDeskNew_any _).mono ?_
  rintro e wH ⟨AH, cH, VH, rfl, hH, dH, lH, hxH⟩
  obtain ⟨W2, hW2⟩ : ∃ W, wH.alloc (.cells #[.slice AH 1 cH, .slice none 0 0] 26) = W := ⟨_, rfl⟩
  have hH2 : Ext wH W2 := by rw [← hW2]; exact Ext.alloc _ _
  have h42 : Ext w4 W2 := (hx5.trans hxH).trans hH2
  obtain ⟨c1, c2⟩ := var_cells ((h42.block (heap_lt HB1.out)).trans HB1.out)
  rw [← hW2] at c1 c2
  have HW2 := Lib.hid hW2
  have hq := eqDesk0_any AH AS cH cS [[(0 : Int)]] [[(0 : Int)]] W2 (hH.ext hH2).mat (HS4.out.mat.ext h42)
  have HQ := Lib.hid hq
  clear hq hW2 hH
  go_wp2_with fail
  rw [HW2.out]
  refine HQ.out.mono ?_
  rw [eM]
  clear HQ HW2 c1 c2
  rintro e w6 ⟨rfl, hx6⟩
  have h46 := h42.trans hx6
  have hx06 := hx04.trans h46
  obtain ⟨c3, c4⟩ := var_cells ((h46.block (heap_lt HB2.out)).trans HB2.out)
  go_wp2_with fail
  refine (heldDesk0_any AG cG [[(0 : Int)]] VG 1 w6 (HK4.out.ext h46) (by decide) (by decide) (by decide) (by decide)).mono ?_
  rw [show (1 + ((total [[(0 : Int)]] : Nat) : Int)) = 2 from rfl]
  rintro e w7 ⟨rfl, hx7⟩
  go_wp2
  go_ret
  exact ⟨rfl, hx06.trans hx7⟩
section
open Go.ChangeShapes Go.WideShapes Go.ChangeAt Go.Deep
theorem FnExactDeskNew_contract (H : Type) (enc : TypeId × Value → H) (W : World) (base : Nat) (args : Array Value) (ds gs : List (DataW H)) (before : List MemPlace)
    (hval : ∀ (j : Nat) t v, Try.f4.params[j]? = some t → args[j]? = some v → Value.okWide Try.prog W .any base t v)
    (hW : DataW.Whole enc Try.prog Try.f4.params.toList Rows.fnExactDeskNewSpec.vars false W args.toList ds gs before) :
    Calls Try.prog 4 args W fun e W' => ∃ v, e = .returned v ∧ Rows.fnExactDeskNewSpec.post enc Try.prog Try.f4 false true false false W args v W' := by
  have hW' := hW
  obtain ⟨p, q, hA0, hV, rfl, hfz, hnd⟩ := hW
  have hA : DataW.TrodAll enc Try.prog W 0 (fun _ => true) true Try.f4.params.toList args.toList ds p := hA0
  rw [Try.params4] at hA hval
  obtain ⟨hargsn, rfl, rfl⟩ := trodAll_nil hA
  obtain rfl : args = #[] := by cases args; simp_all
  obtain ⟨rfl, rfl⟩ := trodVars_none hV
  clear hA0
  refine (FnExactDeskNew_walk W).mono fun e W' ⟨he, hx⟩ => ⟨_, he, post_law laidOut (by rw [Try.params4]; decide +kernel) rfl rfl Try.underlying4 hW' rfl hx⟩
set_option maxRecDepth 100000 in
theorem FnExactDeskNew_lifted (os : Os) (started : os.Started) (H : Type) (enc : TypeId × Value → H) :
    ReturnsInHanded {} Try.checked os 4 .any (Rows.fnExactDeskNewSpec.pre6 enc Try.prog Try.f4 Rows.fnExactDeskNewRow.domain false) (Rows.fnExactDeskNewSpec.post enc Try.prog Try.f4 false true false false) := by
  refine returnsInHanded_of_change (C := Try.checked) own started (by kernel_rfl) Try.func4
    (ChangeSpec.witness6 (enc := enc) (C := Try.checked) false ⟨#[], #[], []⟩ 8 (by kernel_rfl) (by kernel_rfl) (by kernel_rfl) (by kernel_rfl) rfl) ?_
  intro W base args ds gs before hval hW _ _
  exact FnExactDeskNew_contract H enc W base args ds gs before hval hW
theorem FnExactDeskNew_holds : Rows.FnExactDeskNewSaid :=
  OpenClaim.holds_of_wide 4 Try.f4 rfl rfl rfl rfl rfl rfl rfl ⟨rfl, rfl, rfl, rfl, rfl⟩ rfl rfl rfl rfl rfl (by kernel_rfl) Try.func4 (by kernel_rfl)
    (of_decide_eq_true (by kernel_rfl)) (by unfold Func.isWrapper; first | (rw [if_pos (by decide +kernel)]; kernel_rfl) | (rw [if_neg (by decide +kernel)]; exact ⟨rfl, rfl⟩))
    (fun os started H enc _ => FnExactDeskNew_lifted os started H enc)
end
end Go.Proofs.Ytpcjcgaplmlnlaa
