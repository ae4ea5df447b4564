/- What is proved: generic facts on blocks of two cells, and on worlds that change in a few blocks only. No condition. -/
import Derived.Test.YtjpgjmhdjepfgaaDoorMark
namespace Go.Proofs.YtjpgjmhdjepfgaaDoor
open Go.RowKit
theorem three_blocks {w w1 : World} {o1 o2 o3 : Obj} (h : Ext (((w.alloc o1).alloc o2).alloc o3) w1) : w1.heap[w.heap.size]? = some o1 ∧ w1.heap[w.heap.size + 1]? = some o2 ∧ w1.heap[w.heap.size + 1 + 1]? = some o3 := by
  obtain ⟨W1, h1⟩ : ∃ W1, w.alloc o1 = W1 := ⟨_, rfl⟩
  have s1 : W1.heap.size = w.heap.size + 1 := by rw [← h1]; simp
  have a1 : W1.heap[w.heap.size]? = some o1 := by rw [← h1]; exact heap_alloc_new w _
  rw [h1] at h
  obtain ⟨W2, h2⟩ : ∃ W2, W1.alloc o2 = W2 := ⟨_, rfl⟩
  have s2 : W2.heap.size = w.heap.size + 1 + 1 := by rw [← h2]; simp [s1]
  have a2 : W2.heap[w.heap.size + 1]? = some o2 := by rw [← h2, ← s1]; exact heap_alloc_new W1 _
  have b1 : W2.heap[w.heap.size]? = some o1 := by rw [← h2, Below.heap_alloc W1 _ _ (by omega)]; exact a1
  rw [h2] at h
  have s3 : (W2.alloc o3).heap.size = w.heap.size + 1 + 1 + 1 := by simp [s2]
  refine ⟨?_, ?_, ?_⟩
  · rw [h.block (by omega), Below.heap_alloc W2 _ _ (by omega)]; exact b1
  · rw [h.block (by omega), Below.heap_alloc W2 _ _ (by omega)]; exact a2
  · rw [h.block (by omega), ← s2]; exact heap_alloc_new W2 _
theorem set_0 {w : World} {g : Nat} {a b u : Value} {T : TypeId} (hb : w.heap[g]? = some (.cells #[a, b] T (0, 0))) : (w.setCell ⟨g, 0, none⟩ u).heap[g]? = some (.cells #[u, b] T (0, 0)) := by
  simp [World.setCell, Array.getElem?_modify, hb]
theorem set_1 {w : World} {g : Nat} {a b u : Value} {T : TypeId} (hb : w.heap[g]? = some (.cells #[a, b] T (0, 0))) : (w.setCell ⟨g, 1, none⟩ u).heap[g]? = some (.cells #[a, u] T (0, 0)) := by
  simp [World.setCell, Array.getElem?_modify, hb]
theorem two_blocks {w w1 : World} {o1 o2 : Obj} (h : Ext ((w.alloc o1).alloc o2) w1) : w1.heap[w.heap.size]? = some o1 ∧ w1.heap[w.heap.size + 1]? = some o2 ∧ Ext w w1 ∧ w.heap.size + 2 ≤ w1.heap.size := by
  have s1 : (w.alloc o1).heap.size = w.heap.size + 1 := by simp
  have s2 : ((w.alloc o1).alloc o2).heap.size = w.heap.size + 2 := by simp
  refine ⟨?_, ?_, ((Ext.alloc w o1).trans (Ext.alloc _ _)).trans h, by have := h.size; omega⟩
  · rw [h.block (by omega), Below.heap_alloc (w.alloc o1) _ _ (by omega)]; exact heap_alloc_new w _
  · rw [h.block (by omega), ← s1]; exact heap_alloc_new (w.alloc o1) _
theorem three_more {w w1 : World} {o1 o2 o3 : Obj} (h : Ext (((w.alloc o1).alloc o2).alloc o3) w1) : w1.heap[w.heap.size]? = some o1 ∧ w1.heap[w.heap.size + 1]? = some o2 ∧ w1.heap[w.heap.size + 1 + 1]? = some o3 ∧ Ext w w1 ∧ w.heap.size + 3 ≤ w1.heap.size := by
  obtain ⟨a, b, c⟩ := three_blocks h
  exact ⟨a, b, c, ((((Ext.refl w).alloc' o1).alloc' o2).alloc' o3).trans h, by have := h.size; simp at this; omega⟩
theorem two_cells {W : World} {b : Nat} {x y : Value} {T : TypeId} (h : W.heap[b]? = some (.cells #[x, y] T (0, 0))) : W.cell? ⟨b, 0, none⟩ = some x ∧ W.cell? ⟨b, 1, none⟩ = some y :=
  ⟨by rw [cell_cells h]; rfl, by rw [cell_cells h]; rfl⟩
theorem set_far {w : World} {p : Addr} {u : Value} {g : Nat} {o : Obj} (h : w.heap[g]? = some o) (hne : g ≠ p.block) : (w.setCell p u).heap[g]? = some o := (Below.heap_setCell _ _ _ _ hne).trans h
/-- all blocks that were there stay, but for those of S -/
def ExtS (S : Nat → Prop) (w w' : World) : Prop := w'.os = w.os ∧ w'.tape = w.tape ∧ w'.output = w.output ∧ w.heap.size ≤ w'.heap.size ∧ ∀ k, k < w.heap.size → ¬ S k → w'.heap[k]? = w.heap[k]?
theorem ExtS.refl (S : Nat → Prop) (w : World) : ExtS S w w := ⟨rfl, rfl, rfl, Nat.le_refl _, fun _ _ _ => rfl⟩
theorem ExtS.of {S : Nat → Prop} {a b : World} (h : Ext a b) : ExtS S a b := ⟨Below.os h, Below.tape h, Below.output h, h.size, fun _ k1 _ => h.block k1⟩
theorem ExtS.only {S : Nat → Prop} {a b : World} (h : Only S a b) : ExtS S a b := ⟨h.1, h.2.1, h.2.2.1, by rw [h.2.2.2.1]; exact Nat.le_refl _, fun k _ => h.2.2.2.2 k⟩
theorem ExtS.trans {S : Nat → Prop} {a b c : World} (h : ExtS S a b) (k : ExtS S b c) : ExtS S a c :=
  ⟨k.1.trans h.1, k.2.1.trans h.2.1, k.2.2.1.trans h.2.2.1, Nat.le_trans h.2.2.2.1 k.2.2.2.1, fun q q1 q2 => (k.2.2.2.2 q (Nat.lt_of_lt_of_le q1 h.2.2.2.1) q2).trans (h.2.2.2.2 q q1 q2)⟩
theorem ExtS.mono {S T : Nat → Prop} {a b : World} (h : ExtS S a b) (k : ∀ g, S g → T g) : ExtS T a b := ⟨h.1, h.2.1, h.2.2.1, h.2.2.2.1, fun q q1 q2 => h.2.2.2.2 q q1 fun e => q2 (k q e)⟩
theorem ExtS.ext {S : Nat → Prop} {w0 a b : World} (h : Ext w0 a) (k : ExtS S a b) (hs : ∀ g, S g → w0.heap.size ≤ g) : Ext w0 b :=
  ⟨k.1.trans (Below.os h), k.2.1.trans (Below.tape h), k.2.2.1.trans (Below.output h), Nat.le_trans h.size k.2.2.2.1, fun i hi => (k.2.2.2.2 i (Nat.lt_of_lt_of_le hi h.size) fun hg => by have := hs i hg; omega).trans (Below.block h i hi)⟩
end Go.Proofs.YtjpgjmhdjepfgaaDoor
