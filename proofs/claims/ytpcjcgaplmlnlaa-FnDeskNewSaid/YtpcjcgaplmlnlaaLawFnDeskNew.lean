/- What is proved: the law FnDeskNew returns true for every input, and its arguments read behind the call as before. No condition. -/
import Derived.Test.YtpcjcgaplmlnlaaDesk1
import Derived.Test.YtpcjcgaplmlnlaaFrame
import Derived.Deep.RegionHeld3
namespace Go.Proofs.Ytpcjcgaplmlnlaa
open Go.RowKit
theorem sKeep {W w w' : World} {a b : Addr} {x y : Value} (h : w.cell? a = some x ∧ w.cell? b = some y ∧ Ext W w) (k : Ext w w') : w'.cell? a = some x ∧ w'.cell? b = some y ∧ Ext W w' :=
  ⟨k.cell h.1, k.cell h.2.1, h.2.2.trans k⟩
theorem sDrew {W w : World} {a b : Addr} {x y : Value} (h : w.cell? a = some x ∧ w.cell? b = some y ∧ Ext W w) : w.drew.cell? a = some x ∧ w.drew.cell? b = some y ∧ Ext W w.drew :=
  sKeep h (Ext.drewN w 1)
set_option maxRecDepth 100000 in
set_option maxHeartbeats 4000000 in
theorem FnDeskNew_walk (A : Option Addr) (n c : Nat) (w : World) : Calls Try.prog 3 #[.slice A n c] w fun e w' => e = .returned (.bool true) ∧ Ext w w' := by
  have eM : eqM [[(0 : Int)]] [[(0 : Int)]] = true := eqM_refl _
  have eS : spB [[(0 : Int)]] = true := by decide +kernel
  by_cases hn : 1048576 < n
  · have hn' : (1048576 : Int) < (n : Nat) := by omega
    go_enter Try.func3, Try.ntmps3
    go_wp2
    go_ret
    exact ⟨rfl, Ext.refl _⟩
  have hn' : ¬ (1048576 : Int) < (n : Nat) := by omega
  go_enter Try.func3, Try.ntmps3
  go_wp2_with fail
  refine (iDeskNew_any _).mono ?_
  rintro e wG ⟨AG, cG, VG, rfl, hG, dG, lG, hxG⟩
  have HG := Lib.hid hG
  have hGW : Ext wG (wG.alloc (.cells #[.slice AG 1 cG, .slice none 0 0] 26)) := Ext.alloc _ _
  have b2 : (wG.alloc (.cells #[.slice AG 1 cG, .slice none 0 0] 26)).heap[wG.heap.size]? = some (.cells #[.slice AG 1 cG, .slice none 0 0] 26 (0, 0)) := heap_alloc_new wG _
  have k1 := cell_cells b2 0
  have k2 := cell_cells b2 1
  have HMG := Lib.hid (HG.out.ext hGW).mat
  have HXG := Lib.hid (hxG.alloc' (.cells #[.slice AG 1 cG, .slice none 0 0] 26))
  simp only [List.getElem?_toArray, List.getElem?_cons_zero, List.getElem?_cons_succ] at k1 k2
  clear hG b2 lG dG hxG HG
  go_wp2
  have hs0 := And.intro k1 (And.intro k2 (Ext.refl (wG.alloc (.cells #[.slice AG 1 cG, .slice none 0 0] 26))))
  have hs1 := sDrew hs0
  go_region_held3 (fun w' => w'.cell? ⟨wG.heap.size, 0, none⟩ = some (.slice AG 1 cG) ∧ w'.cell? ⟨wG.heap.size, 1, none⟩ = some (.slice none 0 0) ∧ Ext (wG.alloc (.cells #[.slice AG 1 cG, .slice none 0 0] 26)) w') (first | exact hs1 | exact sKeep (by assumption) (by assumption) | assumption)
    (first
      | (go_at_call 11; refine (sDeskNew_any _).mono ?_; rintro e w1 ⟨AS, cS, VS, rfl, hS, -, -, hxS⟩)
      | (go_at_call 10; refine (sameDesk0_any AG AS cG cS [[(0 : Int)]] [[(0 : Int)]] _ (HMG.out.ext (And.right (And.right (by assumption)))) hS.mat).mono ?_; rw [eM]; rintro e w2 ⟨rfl, hx2⟩)
      | (go_at_call 12; refine (iDeskOk0_any AG cG [[(0 : Int)]] _ (HMG.out.ext (And.right (And.right (by assumption))))).mono ?_; rw [eS]; rintro e w3 ⟨rfl, hx3⟩))
  go_wp2
  go_ret
  exact ⟨rfl, HXG.out.trans (And.right (And.right (by assumption)))⟩
section
open Go.ChangeShapes Go.WideShapes Go.ChangeAt Go.Deep
theorem FnDeskNew_contract (H : Type) (enc : TypeId × Value → H) (W : World) (base : Nat) (args : Array Value) (ds gs : List (DataW H)) (before : List MemPlace)
    (hval : ∀ (j : Nat) t v, Try.f3.params[j]? = some t → args[j]? = some v → Value.okWide Try.prog W .any base t v)
    (hW : DataW.Whole enc Try.prog Try.f3.params.toList Rows.fnDeskNewSpec.vars false W args.toList ds gs before) :
    Calls Try.prog 3 args W fun e W' => ∃ v, e = .returned v ∧ Rows.fnDeskNewSpec.post enc Try.prog Try.f3 false true false false W args v W' := by
  have hW' := hW
  obtain ⟨p, q, hA0, hV, rfl, hfz, hnd⟩ := hW
  have hA : DataW.TrodAll enc Try.prog W 0 (fun _ => true) true Try.f3.params.toList args.toList ds p := hA0
  rw [Try.params3] at hA hval
  obtain ⟨v0, vs0, d0, ds0, p0, q0, hargs0, rfl, rfl, h0, r0⟩ := trodAll_cons hA
  obtain ⟨hargsn, rfl, rfl⟩ := trodAll_nil r0
  obtain rfl : args = #[v0] := by cases args; simp_all
  obtain ⟨rfl, rfl⟩ := trodVars_none hV
  clear hA0
  obtain ⟨A0, code, c0, rfl⟩ := okWide_slice Try.underlying22 (hval 0 22 v0 rfl rfl)
  refine (FnDeskNew_walk A0 code c0 W).mono fun e W' ⟨he, hx⟩ => ⟨_, he, post_law laidOut (by rw [Try.params3]; decide +kernel) rfl rfl Try.underlying4 hW' rfl hx⟩
set_option maxRecDepth 100000 in
theorem FnDeskNew_lifted (os : Os) (started : os.Started) (H : Type) (enc : TypeId × Value → H) :
    ReturnsInHanded {} Try.checked os 3 .any (Rows.fnDeskNewSpec.pre6 enc Try.prog Try.f3 Rows.fnDeskNewRow.domain false) (Rows.fnDeskNewSpec.post enc Try.prog Try.f3 false true false false) := by
  refine returnsInHanded_of_change (C := Try.checked) own started (by kernel_rfl) Try.func3
    (ChangeSpec.witness6 (enc := enc) (C := Try.checked) false ⟨#[], #[.slice none 0 0], []⟩ 8 (by kernel_rfl) (by kernel_rfl) (by kernel_rfl) (by kernel_rfl) rfl) ?_
  intro W base args ds gs before hval hW _ _
  exact FnDeskNew_contract H enc W base args ds gs before hval hW
theorem FnDeskNew_holds : Rows.FnDeskNewSaid :=
  OpenClaim.holds_of_wide 3 Try.f3 rfl rfl rfl rfl rfl rfl rfl ⟨rfl, rfl, rfl, rfl, rfl⟩ rfl rfl rfl rfl rfl (by kernel_rfl) Try.func3 (by kernel_rfl)
    (of_decide_eq_true (by kernel_rfl)) (by unfold Func.isWrapper; first | (rw [if_pos (by decide +kernel)]; kernel_rfl) | (rw [if_neg (by decide +kernel)]; exact ⟨rfl, rfl⟩))
    (fun os started H enc _ => FnDeskNew_lifted os started H enc)
end
end Go.Proofs.Ytpcjcgaplmlnlaa
