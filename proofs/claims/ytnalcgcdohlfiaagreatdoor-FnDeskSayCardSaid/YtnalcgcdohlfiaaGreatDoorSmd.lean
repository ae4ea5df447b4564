/- What is proved: sameDesk of two desks. Conditions: those of each contract. -/
import Derived.Test.YtnalcgcdohlfiaaGreatDoorDo
import Derived.Deep.RegionLaw
namespace Go.Proofs.YtnalcgcdohlfiaaGreatDoor
open Go.RowKit
theorem nth_ext {L M : List (List (List Int))} (h : L.length = M.length) (k : ∀ i, i < L.length → nth L i = nth M i) : L = M := by
  refine List.ext_getElem h fun i h1 h2 => ?_
  have := k i h1
  unfold nth at this
  simpa [List.getD_eq_getElem?_getD, h1, h2] using this
set_option maxRecDepth 100000 in
set_option maxHeartbeats 2000000 in
theorem sameDesk_any (A B : Option Addr) (c d : Nat) (D : List (List Int)) (L : List (List (List Int))) (A' B' : Option Addr) (c' d' : Nat) (E : List (List Int)) (M : List (List (List Int))) (w : World) (h1 : Mat w A c D) (h2 : MatS w B d L) (k1 : Mat w A' c' E) (k2 : MatS w B' d' M) :
    Calls Tryz.prog 7 #[.agg #[.slice A D.length c, .slice B L.length d], .agg #[.slice A' E.length c', .slice B' M.length d']] w fun e w' => e = .returned (.bool (decide (L = M) && eqM D E)) ∧ Ext w w' := by
  have HC := Lib.hid (fun W (q : Ext w W) => sameRows_any A A' c c' D E W (h1.ext q) (k1.ext q))
  obtain ⟨bL, oL, RL, rcL, hAL, hrL, hlL, hmL⟩ := h2.parts
  obtain ⟨bM, oM, RM, rcM, hAM, hrM, hlM, hmM⟩ := k2.parts
  have hd : L.length ≤ d ∧ d ≤ maxLen := ⟨h2.1, h2.2.1⟩
  have hd' : M.length ≤ d' ∧ d' ≤ maxLen := ⟨k2.1, k2.2.1⟩
  unfold maxLen at hd hd'
  have HRL := Lib.hid (fun W (q : Ext w W) i (hi : i < L.length) => q.cell (hrL i hi))
  have HRM := Lib.hid (fun W (q : Ext w W) i (hi : i < M.length) => q.cell (hrM i hi))
  have HRR := Lib.hid (fun W (q : Ext w W) i (hi : i < L.length) (hj : i < M.length) => sameRows_any (RL i) (RM i) (rcL i) (rcM i) (nth L i) (nth M i) W ((hmL i hi).ext q) ((hmM i hj).ext q))
  clear h1 h2 k1 k2 hrL hlL hmL hrM hlM hmM
  obtain ⟨w2, hw2⟩ : ∃ W, (w.alloc (.cells #[.slice A D.length c, .slice B L.length d] 26)).alloc (.cells #[.slice A' E.length c', .slice B' M.length d'] 26) = W := ⟨_, rfl⟩
  have HB := Lib.hid (fun W (q : Ext w2 W) => (by obtain ⟨b0, b1, hx, -⟩ := two_blocks (by rw [hw2]; exact q); exact ⟨two_cells b0, two_cells b1, hx⟩ : (W.cell? ⟨w.heap.size, 0, none⟩ = some (.slice A D.length c) ∧ W.cell? ⟨w.heap.size, 1, none⟩ = some (.slice B L.length d)) ∧ (W.cell? ⟨w.heap.size + 1, 0, none⟩ = some (.slice A' E.length c') ∧ W.cell? ⟨w.heap.size + 1, 1, none⟩ = some (.slice B' M.length d')) ∧ Ext w W))
  obtain ⟨⟨p0, p1⟩, ⟨q0, q1⟩, hx2⟩ := HB.out w2 (Ext.refl _)
  by_cases hl : L.length = M.length
  · have hl' : ((L.length : Int) == (M.length : Nat)) = true := beq_iff_eq.2 (by omega)
    have hl2 : ((L.length : Int) != (M.length : Nat)) = false := by rw [bne, hl']; rfl
    have HLM := Lib.hid hl
    clear hl
    go_enter Tryz.func7, Tryz.ntmps7
    go_wp2_with fail
    go_loopg [5] L.length (fun gm s5 wr => ∃ (i : Nat), i + gm = L.length ∧ s5 = .int .i64 i ∧ Ext w2 wr ∧ Hid (∀ j, j < i → nth L j = nth M j))
    case atStart => exact ⟨0, by omega, rfl, by first | exact Ext.refl _ | (rw [← hw2]; exact Ext.refl _), Lib.hid fun j hj => absurd hj (by omega)⟩
    case round =>
      obtain ⟨i, hi, rfl, hxr, HI⟩ := hrel
      clear p0 p1 q0 q1
      obtain ⟨⟨p0, p1⟩, ⟨q0, q1⟩, hxw⟩ := HB.out wr hxr
      by_cases hin : i < L.length
      · obtain ⟨g1, rfl⟩ : ∃ g', gk = g' + 1 := ⟨gk - 1, by omega⟩
        have hin' : (i : Int) < (L.length : Nat) := by omega
        have hjn : i < M.length := by have := HLM.out; omega
        have hjn' : (i : Int) < (M.length : Nat) := by omega
        obtain rfl := hAL (by omega)
        obtain rfl := hAM (by omega)
        have r1 := HRL.out wr hxw i hin
        have r2 := HRM.out wr hxw i hjn
        obtain ⟨bb, hbb⟩ : ∃ b, eqM (nth L i) (nth M i) = b := ⟨_, rfl⟩
        have HRi := Lib.hid (fun W (q : Ext w W) => HRR.out W q i hin hjn)
        rw [hbb] at HRi
        cases bb with
        | true =>
          go_wp2_with fail
          go_region_law ((go_simp; go_at_call 23; refine (HRi.out _ (by repeat (first | exact hxw | apply Ext.drew' | apply Ext.drewN'))).mono ?_; rintro e w5 ⟨rfl, m5, rfl⟩))
          all_goals
            go_wp2
            go_roundg g1
            case measure => omega
            case rel => exact ⟨i + 1, by omega, by go_num, by repeat (first | exact hxr | apply Ext.drew' | apply Ext.drewN'), Lib.hid fun j hj => by
              by_cases e : j = i
              · subst e; exact of_decide_eq_true hbb
              · exact HI.out j (by omega)⟩
        | false =>
          have hne : L ≠ M := fun e => by rw [e] at hbb; rw [eqM_refl] at hbb; exact absurd hbb (by decide)
          go_wp2_with fail
          go_region_law ((go_simp; go_at_call 23; refine (HRi.out _ (by repeat (first | exact hxw | apply Ext.drew' | apply Ext.drewN'))).mono ?_; rintro e w5 ⟨rfl, m5, rfl⟩))
          all_goals
            go_wp2
            go_ret
            exact ⟨ret_bool (by rw [decide_eq_false hne, Bool.false_and]), by repeat (first | exact hxw | apply Ext.drew' | apply Ext.drewN')⟩
      · have hin' : ¬ (i : Int) < (L.length : Nat) := by omega
        have hLM := Lib.hid (nth_ext HLM.out fun j hj => HI.out j (by omega))
        go_wp2_with fail
        refine (HC.out _ (by repeat (first | exact hxw | apply Ext.drew' | apply Ext.drewN'))).mono ?_
        rintro e w5 ⟨rfl, m5, rfl⟩
        go_wp2
        go_ret
        exact ⟨ret_bool (by rw [decide_eq_true hLM.out, Bool.true_and]), hxw.drewN' _⟩
  · have hl' : ((L.length : Int) == (M.length : Nat)) = false := beq_eq_false_iff_ne.2 (by omega)
    have hl2 : ((L.length : Int) != (M.length : Nat)) = true := by rw [bne, hl']; rfl
    have HF := Lib.hid (show (decide (L = M) && eqM D E) = false by rw [decide_eq_false (fun e => hl (by rw [e])), Bool.false_and])
    clear hl
    go_enter Tryz.func7, Tryz.ntmps7
    go_wp2
    go_ret
    exact ⟨ret_bool HF.out.symm, by first | exact hx2 | (rw [hw2]; exact hx2)⟩
end Go.Proofs.YtnalcgcdohlfiaaGreatDoor
