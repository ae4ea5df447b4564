/- What is proved: the law FnDeskOk returns true for every input (if l20Deed draws a deed), and its argument reads behind the call as before. -/
import Derived.Test.YtbkefojepelggaaDsk
import Derived.Test.YtbkefojepelggaaOpen
import Derived.Test.YtbkefojepelggaaAlive
namespace Go.Proofs.Ytbkefojepelggaa
open Go.RowKit
set_option maxHeartbeats 2000000 in
theorem drawDeskOk_any (hDeed : DeedAny) (A : Option Addr) (n c : Nat) (w : World) (h : Byt w A n c) :
    Calls Try.prog 8 #[.slice A n c] w fun e w' => ∃ A' c' Bp d D L, e = .returned (.agg #[.slice A' (List.length D) c', .slice Bp (List.length L) d]) ∧ Mat w' A' c' D ∧ MatS w' Bp d L ∧ Ext w w' := by
  have HB := Lib.hid (fun W (q : Ext w W) => h.ext q)
  go_enter Try.func8, Try.ntmps8
  go_wp2_with fail
  refine (open_any A n c _ (HB.out _ (Ext.alloc _ _))).mono ?_
  rintro e w1 ⟨g, rfl, hx1, hg, hR⟩
  have hlt := hR.lt
  have HR := Lib.hid hR
  have HX := Lib.hid hx1
  clear hR
  go_wp2_with fail
  refine (l20Desk_any hDeed HR.out (Nat.le_refl _) (by omega) 2 (by omega) (by omega)).mono ?_
  rintro e w2 ⟨A', c', Bp, d, D, L, rfl, hF, hS, hR2, hX2⟩
  have hsz : w.heap.size < w1.heap.size := by have := hx1.size; simp at this; omega
  have hsg : w.heap.size < g := by simp at hg; omega
  have hb : w2.heap[w.heap.size]? = some (.cells #[.slice none 0 0, .slice none 0 0] 26 (0, 0)) := (hX2.2.2.2.2 _ hsz (by omega)).trans ((hx1.block (by simp)).trans (heap_alloc_new w _))
  obtain ⟨t1, t2, t3, t4, t5, t6, -⟩ := keepB_set2 (b := 0) hb (.slice A' D.length c') (.slice Bp L.length d)
  have HF := Lib.hid (((hF.set (p := ⟨w.heap.size, 0, none⟩) hsz (.slice A' D.length c')).set (p := ⟨w.heap.size, 1, none⟩) hsz (.slice Bp L.length d)).now)
  have HX3 := Lib.hid (show Ext w ((w2.setCell ⟨w.heap.size, 0, none⟩ (.slice A' D.length c')).setCell ⟨w.heap.size, 1, none⟩ (.slice Bp L.length d)) from ((hX2.ext ((Ext.alloc w _).trans hx1) (by omega)).setCell' (p := ⟨w.heap.size, 0, none⟩) (Nat.le_refl _) _).setCell' (p := ⟨w.heap.size, 1, none⟩) (Nat.le_refl _) _)
  clear hF hS hR2 hX2 hb hx1 HX HR HB
  go_wp2
  refine bodyPost_ret (v := .agg #[.slice A' D.length c', .slice Bp L.length d]) (by simp [results, Try.results8, go_sem, t5, t6]) rfl ?_
  exact ⟨A', c', Bp, d, D, L, rfl, HF.out.1, HF.out.2, HX3.out⟩
theorem deskB_now {D : List (List Int)} {L : List (List (List Int))} (h : deskB D L = true) : deskB D [] = true := deskB_mk (deskB_parts h).1 (by simp) (fun i hi => absurd hi (by simp))
theorem deskB_none : deskB [] [] = false := by decide
theorem mats_nil (W : World) : MatS W none 0 [] := (OwnS.nil 0 W (fun _ => .slice none 0 0) (fun _ _ => .slice none 0 0)).mats_of.2
set_option maxHeartbeats 2000000 in
theorem FnDeskOk_walk0 (hDeed : DeedAny) (A : Option Addr) (n c : Nat) (w : World) (h : Byt w A n c) :
    Calls Try.prog 3 #[.slice A n c] w fun e w' => e = .returned (.bool true) ∧ Ext w w' := by
  by_cases hz : 1048576 < n
  · have hz' : (1048576 : Int) < (n : Nat) := by omega
    go_enter Try.func3, Try.ntmps3
    go_wp2
    go_ret
    exact ⟨rfl, (by repeat (first | exact Ext.refl _ | assumption | apply Ext.drewN' | apply Ext.alloc' | refine Ext.trans ?_ (by assumption)))⟩
  have hz' : ¬ (1048576 : Int) < (n : Nat) := by omega
  go_enter Try.func3, Try.ntmps3
  go_wp2_with fail
  refine (drawDeskOk_any hDeed A n c w h).mono ?_
  rintro e w1 ⟨A1, c1, B1, d1, D, L, rfl, hM, hS, hx1⟩
  have HM := Lib.hid hM
  have HS := Lib.hid hS
  have HN := Lib.hid deskB_none
  have HP := Lib.hid (deskB_now (D := D) (L := L))
  obtain ⟨w2, hw2⟩ : ∃ W, w1.alloc (.cells #[.slice A1 D.length c1, .slice B1 L.length d1] 26) = W := ⟨_, rfl⟩
  have hx2 : Ext w1 w2 := by rw [← hw2]; exact Ext.alloc _ _
  have hb := heap_alloc_new w1 (.cells #[.slice A1 D.length c1, .slice B1 L.length d1] 26)
  rw [hw2] at hb
  have HC := Lib.hid (fun W (q : Ext w2 W) => two_cells ((q.block (heap_lt hb)).trans hb))
  obtain ⟨z0, z1⟩ := two_cells hb
  clear hM hS hb
  go_wp2_with fail
  refine (iDeskOk_any A1 B1 c1 d1 D L _ (HM.out.ext (by repeat (first | exact Ext.refl _ | assumption | apply Ext.drewN' | apply Ext.alloc' | refine Ext.trans ?_ (by assumption)))) (HS.out.ext (by repeat (first | exact Ext.refl _ | assumption | apply Ext.drewN' | apply Ext.alloc' | refine Ext.trans ?_ (by assumption))))).mono ?_
  rintro e w3 ⟨rfl, hx3⟩
  obtain ⟨y0, y1⟩ := HC.out w3 (by repeat (first | exact Ext.refl _ | assumption | apply Ext.drewN' | apply Ext.alloc' | refine Ext.trans ?_ (by assumption)))
  go_wp2_with fail
  refine (sDeskOk_any A1 B1 c1 d1 D L _ (HM.out.ext (by repeat (first | exact Ext.refl _ | assumption | apply Ext.drewN' | apply Ext.alloc' | refine Ext.trans ?_ (by assumption)))) (HS.out.ext (by repeat (first | exact Ext.refl _ | assumption | apply Ext.drewN' | apply Ext.alloc' | refine Ext.trans ?_ (by assumption))))).mono ?_
  rintro e w4 ⟨rfl, hx4⟩
  obtain ⟨x0, x1⟩ := HC.out w4 (by repeat (first | exact Ext.refl _ | assumption | apply Ext.drewN' | apply Ext.alloc' | refine Ext.trans ?_ (by assumption)))
  cases hs : deskB D L with
  | false =>
    go_wp2_with fail
    refine (iDeskOk_any none none 0 0 [] [] _ (Mat.nil _ _ _ (by unfold maxLen; decide)) (mats_nil _)).mono ?_
    rintro e w5 ⟨rfl, hx5⟩
    rw [HN.out]
    go_wp2_with fail
    refine (alive_any _).mono ?_
    rintro e w7 ⟨rfl, hx7⟩
    go_wp2
    go_ret
    exact ⟨rfl, (by repeat (first | exact Ext.refl _ | assumption | apply Ext.drewN' | apply Ext.alloc' | refine Ext.trans ?_ (by assumption)))⟩
  | true =>
    have HD := Lib.hid (HP.out hs)
    go_wp2_with fail
    refine (iDeskOk_any A1 none c1 0 D [] _ (HM.out.ext (by repeat (first | exact Ext.refl _ | assumption | apply Ext.drewN' | apply Ext.alloc' | refine Ext.trans ?_ (by assumption)))) (mats_nil _)).mono ?_
    rintro e w5 ⟨rfl, hx5⟩
    rw [HD.out]
    go_wp2_with fail
    refine (iDeskOk_any none none 0 0 [] [] _ (Mat.nil _ _ _ (by unfold maxLen; decide)) (mats_nil _)).mono ?_
    rintro e w6 ⟨rfl, hx6⟩
    rw [HN.out]
    go_wp2_with fail
    refine (alive_any _).mono ?_
    rintro e w7 ⟨rfl, hx7⟩
    go_wp2
    go_ret
    exact ⟨rfl, (by repeat (first | exact Ext.refl _ | assumption | apply Ext.drewN' | apply Ext.alloc' | refine Ext.trans ?_ (by assumption)))⟩
end Go.Proofs.Ytbkefojepelggaa
