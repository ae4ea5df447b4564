/- What is proved: the law FnDeskRun returns true for every input (if l20Deed draws a deed), and its argument reads behind the call as before. -/
import Derived.Test.YtcejdgnfmcgopaaGreatDoorDrRun
import Derived.Test.YtcejdgnfmcgopaaGreatDoorRunS
import Derived.Test.YtcejdgnfmcgopaaGreatDoorRunP
import Derived.Test.YtcejdgnfmcgopaaGreatDoorLawFnDeskDo
namespace Go.Proofs.YtcejdgnfmcgopaaGreatDoor
open Go.RowKit
theorem mats_none (W : World) : MatS W none 0 [] := (OwnS.nil 0 W (fun _ => .slice none 0 0) (fun _ _ => .slice none 0 0)).mats_of.2
theorem DeedsM.drop' {w : World} {q : Nat} {c : Nat} {ds : List (Int × List Int)} (h : DeedsM w (some ⟨q, 0, none⟩) c ds) {n : Nat} (hn : n ≤ ds.length) : DeedsM w (if c = n then some ⟨q, 0, none⟩ else some ⟨q, n * 2, none⟩) (c - n) (ds.drop n) := by
  have h1 := (h.drop hn).1
  rw [Nat.zero_add] at h1
  by_cases e : c = n
  · have hl : (ds.drop n).length = 0 := by have := h.1; rw [List.length_drop]; omega
    obtain ⟨g1, g2, -⟩ := h1
    exact ⟨g1, g2, 0, 0, fun k => absurd k (by omega), fun i hi => absurd hi (by omega)⟩
  · rw [if_neg e]
    exact h1
/-- a desk of one's own stored in a new block -/
theorem own_stored {w8 wc w10 wf : World} {m10 : Nat} {A B : Option Addr} {c d : Nat} {D : List (List Int)} {L : List (List (List Int))} (hx : Ext w8 wc) (hX : Ext wc w10) (hO : OwnDk wc.heap.size w10 (.agg #[.slice A D.length c, .slice B L.length d]) D L)
    (hm : ∃ wz, Ext w10 wz ∧ wz.heap[m10]? = some (.cells #[.slice none 0 0, .slice none 0 0] 26 (0, 0)) ∧ wf = (wz.setCell ⟨m10, 0, none⟩ (.slice A D.length c)).setCell ⟨m10, 1, none⟩ (.slice B L.length d)) (hm10 : w8.heap.size ≤ m10) :
    Ext w8 wf ∧ wf.heap[m10]? = some (.cells #[.slice A D.length c, .slice B L.length d] 26 (0, 0)) ∧ Mat wf A c D ∧ MatS wf B d L := by
  obtain ⟨wz, hz1, hz2, rfl⟩ := hm
  obtain ⟨Aq, cq, Bq, dq, eq, m1q, m2q, -, -⟩ := ((hO.keep (KeepB.of_ext hz1)).keep (keepB_set2 hz2 (.slice A D.length c) (.slice B L.length d)).2.2.2.2.2.2).split
  simp only [Value.agg.injEq, Array.mk.injEq, List.cons.injEq, Value.slice.injEq] at eq
  obtain ⟨⟨rfl, -, rfl⟩, ⟨rfl, -, rfl⟩, -⟩ := eq
  exact ⟨(((hx.trans hX).trans hz1).setCell' (p := ⟨m10, 0, none⟩) hm10 _).setCell' (p := ⟨m10, 1, none⟩) hm10 _, set_1 (set_0 hz2), m1q, m2q⟩
set_option maxHeartbeats 2000000 in
theorem noDesk_any (A B : Option Addr) (c d : Nat) (D : List (List Int)) (L : List (List (List Int))) (w : World) (h1 : Mat w A c D) (h2 : MatS w B d L) (b : Bool) (hb : b = true ↔ L = [] ∧ D = []) :
    Calls Tryz.prog 14 #[.agg #[.slice A D.length c, .slice B L.length d]] w fun e w' => e = .returned (.bool b) ∧ Ext w w' := by
  have HC := Lib.hid (fun W (q : Ext w W) => sameDesk_v A B c d D L none none 0 0 [] [] W (h1.ext q) (h2.ext q) (Mat.nil _ _ _ (Nat.zero_le _)) (mats_none W) b hb)
  clear h1 h2 hb
  go_enter Tryz.func14, Tryz.ntmps14
  go_wp2_with fail
  refine (HC.out _ (by repeat (first | exact Ext.refl _ | apply Ext.alloc' | apply Ext.drew'))).mono ?_
  rintro e w1 ⟨rfl, hx⟩
  go_wp2
  go_ret
  exact ⟨rfl, by repeat (first | exact hx | refine Ext.trans ?_ hx | exact Ext.refl _ | apply Ext.alloc' | apply Ext.drew')⟩
end Go.Proofs.YtcejdgnfmcgopaaGreatDoor
