/- What is proved: the laws' fixed answer, alive, is true. No condition. -/
import Derived.Test.YtcejdgnfmcgopaaGreatDoorPa
namespace Go.Proofs.YtcejdgnfmcgopaaGreatDoor
open Go.RowKit
theorem mat_cells {w : World} {b c : Nat} {D : List (List Int)} {cs : Array Value} {t : TypeId} (hb : w.heap[b]? = some (.cells cs t (0, 0))) (h1 : D.length ≤ c) (h2 : c ≤ maxLen)
    (hc : ∀ i, i < D.length → ∃ q ds, cs[i]? = some (.slice (some ⟨q, 0, none⟩) (row D i).length (row D i).length) ∧ w.heap[q]? = some (.cells ds 3 (0, 0)) ∧ (row D i).length ≤ 1000 ∧ ∀ j, j < (row D i).length → ds[j]? = some (.int .i64 (ix (row D i) j))) :
    Mat w (some ⟨b, 0, none⟩) c D := by
  refine ⟨h1, h2, b, 0, fun _ => rfl, fun i hi => ?_⟩
  obtain ⟨q, ds, e1, e2, e3, e4⟩ := hc i hi
  exact ⟨_, _, by rw [Nat.zero_add, cell_cells hb, e1], Nat.le_refl _, by unfold maxLen; omega, q, 0, fun _ => rfl, fun j hj => by rw [Nat.zero_add, cell_cells e2, e4 j hj]⟩
theorem two_mat (W : World) :
    Mat (((W.alloc (.cells #[.int .i64 0, .int .i64 2] 3)).alloc (.cells #[.int .i64 2, .int .i64 0] 3)).alloc (.cells #[.slice (some ⟨W.heap.size, 0, none⟩) 2 2, .slice (some ⟨W.heap.size + 1, 0, none⟩) 2 2] 54))
      (some ⟨W.heap.size + 1 + 1, 0, none⟩) 2 [[0, 2], [2, 0]] := by
  obtain ⟨W1, h1⟩ : ∃ W1, W.alloc (.cells #[.int .i64 0, .int .i64 2] 3) = W1 := ⟨_, rfl⟩
  obtain ⟨W2, h2⟩ : ∃ W2, W1.alloc (.cells #[.int .i64 2, .int .i64 0] 3) = W2 := ⟨_, rfl⟩
  have s1 : W1.heap.size = W.heap.size + 1 := by rw [← h1]; simp
  have s2 : W2.heap.size = W.heap.size + 1 + 1 := by rw [← h2]; simp [s1]
  have a1 : W1.heap[W.heap.size]? = some (.cells #[.int .i64 0, .int .i64 2] 3 (0, 0)) := by rw [← h1]; exact heap_alloc_new W _
  have a2 : W2.heap[W.heap.size + 1]? = some (.cells #[.int .i64 2, .int .i64 0] 3 (0, 0)) := by rw [← h2, ← s1]; exact heap_alloc_new W1 _
  rw [h1, h2, ← s2]
  refine mat_cells (heap_alloc_new W2 _) (Nat.le_refl _) (by unfold maxLen; decide) fun i hi => ?_
  have b1 : ∀ o, (W2.alloc o).heap[W.heap.size]? = some (.cells #[.int .i64 0, .int .i64 2] 3 (0, 0)) := fun o => by
    rw [Below.heap_alloc W2 o _ (by omega), ← h2, Below.heap_alloc W1 _ _ (by omega)]; exact a1
  have b2 : ∀ o, (W2.alloc o).heap[W.heap.size + 1]? = some (.cells #[.int .i64 2, .int .i64 0] 3 (0, 0)) := fun o => by
    rw [Below.heap_alloc W2 o _ (by omega)]; exact a2
  match i, hi with
  | 0, _ => exact ⟨W.heap.size, _, rfl, b1 _, by decide, fun j hj => by
      match j, hj with
      | 0, _ => rfl
      | 1, _ => rfl⟩
  | 1, _ => exact ⟨W.heap.size + 1, _, rfl, b2 _, by decide, fun j hj => by
      match j, hj with
      | 0, _ => rfl
      | 1, _ => rfl⟩
theorem one_mat (W : World) :
    Mat ((W.alloc (.cells #[.int .i64 1] 3)).alloc (.cells #[.slice (some ⟨W.heap.size, 0, none⟩) 1 1] 54)) (some ⟨W.heap.size + 1, 0, none⟩) 1 [[1]] := by
  obtain ⟨W1, h1⟩ : ∃ W1, W.alloc (.cells #[.int .i64 1] 3) = W1 := ⟨_, rfl⟩
  have s1 : W1.heap.size = W.heap.size + 1 := by rw [← h1]; simp
  have a1 : W1.heap[W.heap.size]? = some (.cells #[.int .i64 1] 3 (0, 0)) := by rw [← h1]; exact heap_alloc_new W _
  rw [h1, ← s1]
  refine mat_cells (heap_alloc_new W1 _) (Nat.le_refl _) (by unfold maxLen; decide) fun i hi => ?_
  match i, hi with
  | 0, _ => exact ⟨W.heap.size, _, rfl, by rw [Below.heap_alloc W1 _ _ (by omega)]; exact a1, by decide, fun j hj => by
      match j, hj with
      | 0, _ => rfl⟩
theorem sp_two : spB [[0, 2], [2, 0]] = true := by decide +kernel
theorem sp_one : spB [[1]] = false := by decide +kernel
set_option maxHeartbeats 1000000 in
theorem iSpaceOk_any (A : Option Addr) (c : Nat) (D : List (List Int)) (w : World) (h : Mat w A c D) :
    Calls Tryz.prog 49 #[.slice A D.length c] w fun e w' => e = .returned (.bool (spB D)) ∧ ∃ m, w' = w.drewN m := by
  have HC := Lib.hid (isSpace_any A c D w h)
  go_enter Tryz.func49, Tryz.ntmps49
  go_wp2_with (go_at_call 85; refine HC.out.mono ?_; rintro e w' ⟨rfl, m0, rfl⟩)
  go_ret
  exact ⟨rfl, _, rfl⟩
theorem alive_two (w : World) : Calls Tryz.prog 49 #[.slice (some ⟨w.heap.size + 1 + 1, 0, none⟩) 2 2] (((w.alloc (.cells #[.int .i64 0, .int .i64 2] 3)).alloc (.cells #[.int .i64 2, .int .i64 0] 3)).alloc (.cells #[.slice (some ⟨w.heap.size, 0, none⟩) 2 2, .slice (some ⟨w.heap.size + 1, 0, none⟩) 2 2] 54))
    fun e w' => e = .returned (.bool true) ∧ ∃ m, w' = (((w.alloc (.cells #[.int .i64 0, .int .i64 2] 3)).alloc (.cells #[.int .i64 2, .int .i64 0] 3)).alloc (.cells #[.slice (some ⟨w.heap.size, 0, none⟩) 2 2, .slice (some ⟨w.heap.size + 1, 0, none⟩) 2 2] 54)).drewN m := by
  have h := iSpaceOk_any _ _ _ _ (two_mat w)
  rw [sp_two] at h
  exact h
theorem alive_one (w : World) : Calls Tryz.prog 49 #[.slice (some ⟨w.heap.size + 1, 0, none⟩) 1 1] ((w.alloc (.cells #[.int .i64 1] 3)).alloc (.cells #[.slice (some ⟨w.heap.size, 0, none⟩) 1 1] 54))
    fun e w' => e = .returned (.bool false) ∧ ∃ m, w' = ((w.alloc (.cells #[.int .i64 1] 3)).alloc (.cells #[.slice (some ⟨w.heap.size, 0, none⟩) 1 1] 54)).drewN m := by
  have h := iSpaceOk_any _ _ _ _ (one_mat w)
  rw [sp_one] at h
  exact h
set_option maxHeartbeats 1000000 in
theorem alive_any (w : World) : Calls Tryz.prog 15 #[] w fun e w' => e = .returned (.bool true) ∧ Ext w w' := by
  go_enter Tryz.func15, Tryz.ntmps15
  go_wp2_with fail
  refine (alive_two w).mono ?_
  rintro e w1 ⟨rfl, m1, hw1⟩
  have hx1 : Ext w w1 := by rw [hw1]; exact (by repeat (first | exact Ext.refl _ | assumption | apply Ext.drewN' | apply Ext.alloc' | refine Ext.trans ?_ (by assumption)))
  clear hw1
  go_wp2_with fail
  refine (alive_one w1).mono ?_
  rintro e w2 ⟨rfl, m2, hw2⟩
  have hx2 : Ext w w2 := by rw [hw2]; exact (by repeat (first | exact Ext.refl _ | assumption | apply Ext.drewN' | apply Ext.alloc' | refine Ext.trans ?_ (by assumption)))
  clear hw2
  go_wp2
  go_ret
  exact ⟨rfl, (by repeat (first | exact Ext.refl _ | assumption | apply Ext.drewN' | apply Ext.alloc' | refine Ext.trans ?_ (by assumption)))⟩
end Go.Proofs.YtcejdgnfmcgopaaGreatDoor
