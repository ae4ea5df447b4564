/- What is proved: DrawMedianSpace returns rows to be read. No condition. -/
import Derived.Test.YtjaigidlpfdfiaaWith
import Derived.Test.YtjaigidlpfdfiaaDrTree
import Derived.Test.YtjaigidlpfdfiaaOpen
import Derived.Test.YtjaigidlpfdfiaaAlive
namespace Go.Proofs.Ytjaigidlpfdfiaa
open Go.RowKit
theorem four_get (W : World) (a b c d o : Obj) : (((((W.alloc a).alloc b).alloc c).alloc d).alloc o).heap[W.heap.size]? = some a ∧ (((((W.alloc a).alloc b).alloc c).alloc d).alloc o).heap[W.heap.size + 1]? = some b ∧
    (((((W.alloc a).alloc b).alloc c).alloc d).alloc o).heap[W.heap.size + 1 + 1]? = some c ∧ (((((W.alloc a).alloc b).alloc c).alloc d).alloc o).heap[W.heap.size + 1 + 1 + 1]? = some d ∧ (((((W.alloc a).alloc b).alloc c).alloc d).alloc o).heap[W.heap.size + 1 + 1 + 1 + 1]? = some o := by
  obtain ⟨W1, h1⟩ : ∃ W1, W.alloc a = W1 := ⟨_, rfl⟩
  obtain ⟨W2, h2⟩ : ∃ W2, W1.alloc b = W2 := ⟨_, rfl⟩
  obtain ⟨W3, h3⟩ : ∃ W3, W2.alloc c = W3 := ⟨_, rfl⟩
  obtain ⟨W4, h4⟩ : ∃ W4, W3.alloc d = W4 := ⟨_, rfl⟩
  have s1 : W1.heap.size = W.heap.size + 1 := by rw [← h1]; simp
  have s2 : W2.heap.size = W1.heap.size + 1 := by rw [← h2]; simp
  have s3 : W3.heap.size = W2.heap.size + 1 := by rw [← h3]; simp
  have s4 : W4.heap.size = W3.heap.size + 1 := by rw [← h4]; simp
  have a1 : W1.heap[W.heap.size]? = some a := by rw [← h1]; exact heap_alloc_new W _
  have a2 : W2.heap[W1.heap.size]? = some b := by rw [← h2]; exact heap_alloc_new W1 _
  have a3 : W3.heap[W2.heap.size]? = some c := by rw [← h3]; exact heap_alloc_new W2 _
  have a4 : W4.heap[W3.heap.size]? = some d := by rw [← h4]; exact heap_alloc_new W3 _
  have a5 := heap_alloc_new W4 o
  rw [h1, h2, h3, h4, ← s1, ← s2, ← s3, ← s4]
  have k2 : ∀ g, g < W1.heap.size → W2.heap[g]? = W1.heap[g]? := fun g hg => by rw [← h2]; exact Below.heap_alloc W1 _ _ hg
  have k3 : ∀ g, g < W2.heap.size → W3.heap[g]? = W2.heap[g]? := fun g hg => by rw [← h3]; exact Below.heap_alloc W2 _ _ hg
  have k4 : ∀ g, g < W3.heap.size → W4.heap[g]? = W3.heap[g]? := fun g hg => by rw [← h4]; exact Below.heap_alloc W3 _ _ hg
  have k5 : ∀ g, g < W4.heap.size → (W4.alloc o).heap[g]? = W4.heap[g]? := fun g hg => Below.heap_alloc W4 _ _ hg
  exact ⟨by rw [k5 _ (by omega), k4 _ (by omega), k3 _ (by omega), k2 _ (by omega), a1], by rw [k5 _ (by omega), k4 _ (by omega), k3 _ (by omega), a2], by rw [k5 _ (by omega), k4 _ (by omega), a3], by rw [k5 _ (by omega), a4], a5⟩
theorem four_mat (W : World) :
    Mat (((((W.alloc (.cells #[.int .i64 0, .int .i64 1, .int .i64 2, .int .i64 1] 3)).alloc (.cells #[.int .i64 1, .int .i64 0, .int .i64 1, .int .i64 2] 3)).alloc (.cells #[.int .i64 2, .int .i64 1, .int .i64 0, .int .i64 1] 3)).alloc (.cells #[.int .i64 1, .int .i64 2, .int .i64 1, .int .i64 0] 3)).alloc
        (.cells #[.slice (some ⟨W.heap.size, 0, none⟩) 4 4, .slice (some ⟨W.heap.size + 1, 0, none⟩) 4 4, .slice (some ⟨W.heap.size + 1 + 1, 0, none⟩) 4 4, .slice (some ⟨W.heap.size + 1 + 1 + 1, 0, none⟩) 4 4] 39))
      (some ⟨W.heap.size + 1 + 1 + 1 + 1, 0, none⟩) 4 [[0, 1, 2, 1], [1, 0, 1, 2], [2, 1, 0, 1], [1, 2, 1, 0]] := by
  obtain ⟨g1, g2, g3, g4, g5⟩ := four_get W (.cells #[.int .i64 0, .int .i64 1, .int .i64 2, .int .i64 1] 3) (.cells #[.int .i64 1, .int .i64 0, .int .i64 1, .int .i64 2] 3) (.cells #[.int .i64 2, .int .i64 1, .int .i64 0, .int .i64 1] 3) (.cells #[.int .i64 1, .int .i64 2, .int .i64 1, .int .i64 0] 3)
    (.cells #[.slice (some ⟨W.heap.size, 0, none⟩) 4 4, .slice (some ⟨W.heap.size + 1, 0, none⟩) 4 4, .slice (some ⟨W.heap.size + 1 + 1, 0, none⟩) 4 4, .slice (some ⟨W.heap.size + 1 + 1 + 1, 0, none⟩) 4 4] 39)
  refine mat_cells g5 (Nat.le_refl _) (by unfold maxLen; decide) fun i hi => ?_
  match i, hi with
  | 0, _ => exact ⟨W.heap.size, _, rfl, g1, by decide, fun j hj => by
      match j, hj with
      | 0, _ => rfl
      | 1, _ => rfl
      | 2, _ => rfl
      | 3, _ => rfl⟩
  | 1, _ => exact ⟨W.heap.size + 1, _, rfl, g2, by decide, fun j hj => by
      match j, hj with
      | 0, _ => rfl
      | 1, _ => rfl
      | 2, _ => rfl
      | 3, _ => rfl⟩
  | 2, _ => exact ⟨W.heap.size + 1 + 1, _, rfl, g3, by decide, fun j hj => by
      match j, hj with
      | 0, _ => rfl
      | 1, _ => rfl
      | 2, _ => rfl
      | 3, _ => rfl⟩
  | 3, _ => exact ⟨W.heap.size + 1 + 1 + 1, _, rfl, g4, by decide, fun j hj => by
      match j, hj with
      | 0, _ => rfl
      | 1, _ => rfl
      | 2, _ => rfl
      | 3, _ => rfl⟩
theorem small_in {xs : List Int} {a b : Int} (h : ∀ x ∈ xs, a ≤ x ∧ x ≤ b) : ∀ i, i < xs.length → a ≤ ix xs i ∧ ix xs i ≤ b := fun i hi => by rw [ix_of hi]; exact h _ (List.getElem_mem _)
def DMed (w : World) (e : Ending) (w' : World) : Prop := ∃ A' c' D, e = .returned (.slice A' (List.length D) c') ∧ Mat w' A' c' D ∧ Ext w w'
set_option maxRecDepth 100000 in
set_option maxHeartbeats 4000000 in
theorem drawMedianSpace_any (A : Option Addr) (n c : Nat) (w : World) (h : Byt w A n c) :
    Calls Try.prog 31 #[.slice A n c] w (DMed w) := by
  go_enter Try.func31, Try.ntmps31
  go_wp2_with fail
  refine (open_any A n c w h).mono ?_
  rintro e w1 ⟨g, rfl, hx1, hg, hR⟩
  have HR := Lib.hid hR
  have HX := Lib.hid hx1
  clear hR hx1
  go_wp2_with fail
  refine (pickU HR.out 4 (by omega) (by omega) (by omega)).mono ?_
  rintro e w2 ⟨v, rfl, v0, v1, hR2, hO2⟩
  have HR2 := Lib.hid hR2
  have HXG := Lib.hid ((ExtG.refl g w1).rd hO2)
  have HX2 := Lib.hid (((ExtG.refl g w1).rd hO2).ext HX.out hg)
  have hsz : w2.heap.size = w1.heap.size := hO2.2.2.2.1
  have HSZ := Lib.hid hsz
  clear hR2 hO2 hsz
  rcases (show v = 0 ∨ v = 1 ∨ 2 ≤ v by omega) with rfl | rfl | h2
  · go_wp2
    go_ret
    exact ⟨_, _, [[0, 1, 2, 1], [1, 0, 1, 2], [2, 1, 0, 1], [1, 2, 1, 0]], rfl, four_mat w2, ((((HX2.out.alloc' _).alloc' _).alloc' _).alloc' _).alloc' _⟩
  · have I1 := Lib.hid (show Ints (w2.alloc (.cells #[.int .i64 1, .int .i64 1] 3)) (some ⟨w2.heap.size, 0, none⟩) 2 [1, 1] from leafI (xs := [1, 1]) (leaf_new (xs := [1, 1]) (fun j hj => by
      match j, hj with
      | 0, _ => rfl
      | 1, _ => rfl) (by show 2 ≤ 1000; decide)))
    have I2 := Lib.hid (show Ints ((w2.alloc (.cells #[.int .i64 1, .int .i64 1] 3)).alloc (.cells #[.int .i64 1, .int .i64 1, .int .i64 1] 3)) (some ⟨w2.heap.size + 1, 0, none⟩) 3 [1, 1, 1] from by
      have := leafI (xs := [1, 1, 1]) (leaf_new (W := w2.alloc (.cells #[.int .i64 1, .int .i64 1] 3)) (cs := #[.int .i64 1, .int .i64 1, .int .i64 1]) (xs := [1, 1, 1]) (fun j hj => by
        match j, hj with
        | 0, _ => rfl
        | 1, _ => rfl
        | 2, _ => rfl) (by show 3 ≤ 1000; decide))
      rw [show (w2.alloc (.cells #[.int .i64 1, .int .i64 1] 3)).heap.size = w2.heap.size + 1 by simp] at this
      exact this)
    go_wp2_with fail
    refine (CaterpillarOf_any (some ⟨w2.heap.size, 0, none⟩) 2 [1, 1] (some ⟨w2.heap.size + 1, 0, none⟩) 3 [1, 1, 1] _ (I1.out.ext (Ext.alloc _ _)) I2.out rfl (by decide) (by decide) (small_in (by decide)) (small_in (by decide))).mono ?_
    rintro e w3 ⟨A3, c3, V3, D3, b3, rfl, hO3, h63, hx3⟩
    have HM3 := Lib.hid hO3.mat
    have HX3 := Lib.hid (((HX2.out.alloc' _).alloc' _).trans hx3)
    clear hO3 hx3 I1 I2
    have I3 := Lib.hid (show Ints (w3.alloc (.cells #[.int .i64 1, .int .i64 2, .int .i64 3] 3)) (some ⟨w3.heap.size, 0, none⟩) 3 [1, 2, 3] from leafI (xs := [1, 2, 3]) (leaf_new (xs := [1, 2, 3]) (fun j hj => by
      match j, hj with
      | 0, _ => rfl
      | 1, _ => rfl
      | 2, _ => rfl) (by show 3 ≤ 1000; decide)))
    go_wp2_with fail
    refine (sWithPoint_any A3 c3 D3 (some ⟨w3.heap.size, 0, none⟩) 3 [1, 2, 3] _ (HM3.out.ext (Ext.alloc _ _)) I3.out (small_in (by decide))).mono ?_
    rintro e w4 ⟨A4, c4, D4, b4, rfl, hM4, hx4⟩
    have HM4 := Lib.hid hM4
    have HX4 := Lib.hid ((HX3.out.alloc' _).trans hx4)
    clear hM4 hx4 I3 HM3
    go_wp2
    go_ret
    exact ⟨_, _, D4, rfl, HM4.out, HX4.out⟩
  · have hv0 : (v == 0) = false := beq_eq_false_iff_ne.2 (by omega)
    have hv1 : (v == 1) = false := beq_eq_false_iff_ne.2 (by omega)
    go_wp2_with fail
    refine (l20Tree_any HR2.out (by rw [HSZ.out]; exact Nat.le_refl _) (by omega) 9 (by omega) (by omega)).mono ?_
    rintro e w3 ⟨A', c', V, D, rfl, hO, h6, hR3, hX3⟩
    have HM := Lib.hid hO.mat
    have HX3 := Lib.hid ((HXG.out.trans hX3).ext HX.out hg)
    clear hO hR3 hX3
    go_wp2
    go_ret
    exact ⟨_, _, D, rfl, HM.out, HX3.out⟩
end Go.Proofs.Ytjaigidlpfdfiaa
