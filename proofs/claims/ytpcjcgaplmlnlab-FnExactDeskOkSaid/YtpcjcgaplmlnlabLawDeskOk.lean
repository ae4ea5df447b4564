/- What is proved: the law FnExactDeskOk returns true for every input, and its argument reads behind the call as before. No condition. -/
import Derived.Test.YtpcjcgaplmlnlabDk2
import Derived.Deep.RegionHeld3
namespace Go.Proofs.Ytpcjcgaplmlnlab
open Go.RowKit
theorem var_cells {W : World} {b : Nat} {x y : Value} {T : TypeId} (h : W.heap[b]? = some (.cells #[x, y] T (0, 0))) : W.cell? ⟨b, 0, none⟩ = some x ∧ W.cell? ⟨b, 1, none⟩ = some y :=
  ⟨by rw [cell_cells h]; rfl, by rw [cell_cells h]; rfl⟩
theorem sKeep4 {W w w' : World} {a b c d : Addr} {x y z u : Value} (h : w.cell? a = some x ∧ w.cell? b = some y ∧ w.cell? c = some z ∧ w.cell? d = some u ∧ Ext W w) (k : Ext w w') :
    w'.cell? a = some x ∧ w'.cell? b = some y ∧ w'.cell? c = some z ∧ w'.cell? d = some u ∧ Ext W w' :=
  ⟨k.cell h.1, k.cell h.2.1, k.cell h.2.2.1, k.cell h.2.2.2.1, h.2.2.2.2.trans k⟩
set_option maxRecDepth 100000 in
set_option maxHeartbeats 4000000 in
theorem FnExactDeskOk_walk (A : Option Addr) (c : Nat) (D : List (List Int)) (B : Option Addr) (d : Nat) (L : List (List (List Int))) (w : World) (h1 : Mat w A c D) (h2 : MatS w B d L) :
    Calls Try.prog 7 #[.agg #[.slice A D.length c, .slice B L.length d]] w fun e w' => e = .returned (.bool true) ∧ Ext w w' := by
  have H1 := Lib.hid h1
  have H2 := Lib.hid h2
  have b0 := heap_alloc_new w (.cells #[.slice A D.length c, .slice B L.length d] 40)
  have HB := Lib.hid b0
  obtain ⟨g0, g1⟩ := var_cells b0
  clear h1 h2 b0
  go_enter Try.func7, Try.ntmps7
  go_wp2_with fail
  refine (szDesk_any A B c d D L _ (H1.out.ext (Ext.alloc _ _)) (H2.out.ext (Ext.alloc _ _))).mono ?_
  rintro e w1 ⟨rfl, hx1⟩
  have hw1 : Ext w w1 := (Ext.alloc _ _).trans hx1
  obtain ⟨k0, k1⟩ := var_cells ((hx1.block (heap_lt HB.out)).trans HB.out)
  have HB1 := Lib.hid ((hx1.block (heap_lt HB.out)).trans HB.out)
  clear g0 g1 hx1 HB
  by_cases hsz : szDk D L 1048576 < 0
  · go_wp2
    go_ret
    exact ⟨rfl, hw1⟩
  have hf : (D.length + total D ≤ 1048576) ∧ L.length ≤ 1048576 ∧ ∀ j, j < L.length → (nth L j).length + total (nth L j) ≤ 1048576 := by
    unfold szDk at hsz
    by_cases q : szM D 1048576 < 0
    · rw [if_pos q] at hsz; omega
    · obtain ⟨q1, q2⟩ := szM_le q
      rw [if_neg q] at hsz
      by_cases r : szS L (szM D 1048576) < 0
      · rw [if_pos r] at hsz; omega
      · exact ⟨by omega, szS_spec (by omega) r⟩
  obtain ⟨z1, z2, z3⟩ := hf
  have HZ := Lib.hid z3
  have hTD := Lib.hid (fun (W : World) (q1 : Mat W A c D) (q2 : MatS W B d L) => toDesk_any A B c d D L W q1 q2 z1 z2 HZ.out)
  clear z3
  go_wp2_with fail
  refine (hTD.out _ (H1.out.ext hw1) (H2.out.ext hw1)).mono ?_
  rintro e w2 ⟨A2, c2, V2, B2, d2, rfl, m2, s2, hx2⟩
  have hw2 : Ext w w2 := hw1.trans hx2
  have M2 := Lib.hid m2.mat
  have S2 := Lib.hid s2.mats
  have HB2 := Lib.hid ((hx2.block (heap_lt HB1.out)).trans HB1.out)
  clear m2 s2 hx2 k0 k1 HB1 hw1
  go_wp2_with fail
  refine (sDeskOk_any A2 B2 c2 d2 D L _ M2.out S2.out).mono ?_
  rintro e w3 ⟨rfl, hx3⟩
  have hw3 : Ext w w3 := hw2.trans hx3
  obtain ⟨k0, k1⟩ := var_cells ((hx3.block (heap_lt HB2.out)).trans HB2.out)
  have HB3 := Lib.hid ((hx3.block (heap_lt HB2.out)).trans HB2.out)
  clear hx3 HB2 hw2 M2 S2
  go_wp2_with fail
  refine (hTD.out _ (H1.out.ext hw3) (H2.out.ext hw3)).mono ?_
  rintro e w4 ⟨A4, c4, V4, B4, d4, rfl, m4, s4, hx4⟩
  obtain ⟨u4, hu4⟩ : ∃ u4, w4.alloc (.cells #[.slice A4 D.length c4, .slice B4 L.length d4] 43) = u4 := ⟨_, rfl⟩
  have hwu : Ext w4 u4 := by rw [← hu4]; exact Ext.alloc _ _
  have hw4 : Ext w u4 := (hw3.trans hx4).trans hwu
  have M4 := Lib.hid (m4.mat.ext hwu)
  have S4 := Lib.hid (s4.mats.ext hwu)
  have HB4 := Lib.hid (((hx4.trans hwu).block (heap_lt HB3.out)).trans HB3.out)
  have hbu : u4.heap[w4.heap.size]? = some (.cells #[.slice A4 D.length c4, .slice B4 L.length d4] 43 (0, 0)) := by rw [← hu4]; exact heap_alloc_new w4 _
  have HU := Lib.hid hbu
  obtain ⟨j0, j1⟩ := var_cells hbu
  rw [← hu4] at j0 j1
  have HE := Lib.hid hu4
  clear m4 s4 hx4 k0 k1 HB3 hw3 hwu hbu hu4
  go_wp2_with fail
  rw [HE.out]
  refine (iDeskOk_any A4 B4 c4 d4 D L _ M4.out S4.out).mono ?_
  rintro e w5 ⟨rfl, hx5⟩
  have hw5 : Ext w w5 := hw4.trans hx5
  obtain ⟨k0, k1⟩ := var_cells ((hx5.block (heap_lt HB4.out)).trans HB4.out)
  obtain ⟨i0, i1⟩ := var_cells ((hx5.block (heap_lt HU.out)).trans HU.out)
  have M5 := Lib.hid (M4.out.ext hx5)
  have S5 := Lib.hid (S4.out.ext hx5)
  clear hx5 HB4 HU j0 j1 M4 S4 hw4 HE
  go_wp2_with fail
  have hs0 : w5.cell? ⟨w4.heap.size, 0, none⟩ = some (.slice A4 D.length c4) ∧ w5.cell? ⟨w4.heap.size, 1, none⟩ = some (.slice B4 L.length d4) ∧ w5.cell? ⟨w.heap.size, 0, none⟩ = some (.slice A D.length c) ∧ w5.cell? ⟨w.heap.size, 1, none⟩ = some (.slice B L.length d) ∧ Ext w5 w5 := ⟨i0, i1, k0, k1, Ext.refl _⟩
  have hs1 := sKeep4 hs0 (Ext.drewN w5 1)
  go_region_held3 (fun w' => w'.cell? ⟨w4.heap.size, 0, none⟩ = some (.slice A4 D.length c4) ∧ w'.cell? ⟨w4.heap.size, 1, none⟩ = some (.slice B4 L.length d4) ∧ w'.cell? ⟨w.heap.size, 0, none⟩ = some (.slice A D.length c) ∧ w'.cell? ⟨w.heap.size, 1, none⟩ = some (.slice B L.length d) ∧ Ext w5 w') (first | exact hs1 | exact sKeep4 (by assumption) (by assumption) | assumption)
    (first
      | (go_at_call 26; refine (hTD.out _ (H1.out.ext (hw5.trans (And.right (And.right (And.right (And.right (by assumption))))))) (H2.out.ext (hw5.trans (And.right (And.right (And.right (And.right (by assumption)))))))).mono ?_; rintro e w6 ⟨A6, c6, V6, B6, d6, rfl, m6, s6, hx6⟩)
      | (go_at_call 28; refine (eqDesk_any A4 B4 A6 B6 c4 d4 c6 d6 D L _ (M5.out.ext (And.right (And.right (And.right (And.right (by assumption)))))) (S5.out.ext (And.right (And.right (And.right (And.right (by assumption)))))) m6.mat s6.mats).mono ?_; rintro e w7 ⟨rfl, hx7⟩))
  go_wp2
  go_ret
  exact ⟨rfl, hw5.trans (And.right (And.right (And.right (And.right (by assumption)))))⟩
section
open Go.ChangeShapes Go.WideShapes Go.ChangeAt Go.Deep
theorem FnExactDeskOk_contract (H : Type) (enc : TypeId × Value → H) (W : World) (base : Nat) (args : Array Value) (ds gs : List (DataW H)) (before : List MemPlace)
    (hval : ∀ (j : Nat) t v, Try.f7.params[j]? = some t → args[j]? = some v → Value.okWide Try.prog W .any base t v)
    (hW : DataW.Whole enc Try.prog Try.f7.params.toList Rows.fnExactDeskOkSpec.vars false W args.toList ds gs before) :
    Calls Try.prog 7 args W fun e W' => ∃ v, e = .returned v ∧ Rows.fnExactDeskOkSpec.post enc Try.prog Try.f7 false true false false W args v W' := by
  have hW' := hW
  obtain ⟨p, q, hA0, hV, rfl, hfz, hnd⟩ := hW
  have hA : DataW.TrodAll enc Try.prog W 0 (fun _ => true) true Try.f7.params.toList args.toList ds p := hA0
  rw [Try.params7] at hA hval
  obtain ⟨v0, vs0, d0, ds0, p0, q0, hargs0, rfl, rfl, h0, r0⟩ := trodAll_cons hA
  obtain ⟨hargsn, rfl, rfl⟩ := trodAll_nil r0
  obtain rfl : args = #[v0] := by cases args; simp_all
  obtain ⟨rfl, rfl⟩ := trodVars_none hV
  clear hA0
  obtain ⟨A0, c0, D, B0, d0c, L0, rfl, M0, S0⟩ := read_desk (hval 0 40 v0 rfl rfl) h0
  refine (FnExactDeskOk_walk A0 c0 D B0 d0c L0 W M0 S0).mono fun e W' ⟨he, hx⟩ => ⟨_, he, post_law laidOut (by rw [Try.params7]; decide +kernel) rfl rfl Try.underlying4 hW' rfl hx⟩
set_option maxRecDepth 100000 in
theorem FnExactDeskOk_lifted (os : Os) (started : os.Started) (H : Type) (enc : TypeId × Value → H) :
    ReturnsInHanded {} Try.checked os 7 .any (Rows.fnExactDeskOkSpec.pre6 enc Try.prog Try.f7 Rows.fnExactDeskOkRow.domain false) (Rows.fnExactDeskOkSpec.post enc Try.prog Try.f7 false true false false) := by
  refine returnsInHanded_of_change (C := Try.checked) own started (by kernel_rfl) Try.func7
    (ChangeSpec.witness6 (enc := enc) (C := Try.checked) false ⟨#[], #[.agg #[.slice none 0 0, .slice none 0 0]], []⟩ 8 (by kernel_rfl) (by kernel_rfl) (by kernel_rfl) (by kernel_rfl) rfl) ?_
  intro W base args ds gs before hval hW _ _
  exact FnExactDeskOk_contract H enc W base args ds gs before hval hW
theorem FnExactDeskOk_holds : Rows.FnExactDeskOkSaid :=
  OpenClaim.holds_of_wide 7 Try.f7 rfl rfl rfl rfl rfl rfl rfl ⟨rfl, rfl, rfl, rfl, rfl⟩ rfl rfl rfl rfl rfl (by kernel_rfl) Try.func7 (by kernel_rfl)
    (of_decide_eq_true (by kernel_rfl)) (by unfold Func.isWrapper; first | (rw [if_pos (by decide +kernel)]; kernel_rfl) | (rw [if_neg (by decide +kernel)]; exact ⟨rfl, rfl⟩))
    (fun os started H enc _ => FnExactDeskOk_lifted os started H enc)
end
end Go.Proofs.Ytpcjcgaplmlnlab
