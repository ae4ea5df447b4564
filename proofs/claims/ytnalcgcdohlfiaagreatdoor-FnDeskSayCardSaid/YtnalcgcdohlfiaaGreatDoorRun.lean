/- What is proved: impl.DeskRun. Conditions: those of each contract. -/
import Derived.Test.YtnalcgcdohlfiaaGreatDoorDl
namespace Go.Proofs.YtnalcgcdohlfiaaGreatDoor
open Go.RowKit
/-- the desk in the block behind w, of one's own, and the result's block -/
def RunS (w : World) (D : List (List Int)) (L : List (List (List Int))) (W : World) : Prop :=
  Ext w W ∧ (∃ A c B d, W.heap[w.heap.size]? = some (.cells #[.slice A D.length c, .slice B L.length d] 26 (0, 0)) ∧ OwnDk w.heap.size W (.agg #[.slice A D.length c, .slice B L.length d]) D L) ∧ ∃ x y, W.heap[w.heap.size + 1]? = some (.cells #[x, y] 26 (0, 0))
theorem RunS.take {w W W' : World} {D D' : List (List Int)} {L L' : List (List (List Int))} (h : RunS w D L W) (k : Ext W W') {A : Option Addr} {c : Nat} {B : Option Addr} {d : Nat} (hO : OwnDk W.heap.size W' (.agg #[.slice A D'.length c, .slice B L'.length d]) D' L') :
    RunS w D' L' ((W'.setCell ⟨w.heap.size, 0, none⟩ (.slice A D'.length c)).setCell ⟨w.heap.size, 1, none⟩ (.slice B L'.length d)) := by
  obtain ⟨h1, ⟨A0, c0, B0, d0, h2, h3⟩, x, y, h4⟩ := h
  have b2 := (k.block (heap_lt h2)).trans h2
  have b4 := (k.block (heap_lt h4)).trans h4
  refine ⟨((h1.trans k).setCell' (p := ⟨w.heap.size, 0, none⟩) (Nat.le_refl _) _).setCell' (p := ⟨w.heap.size, 1, none⟩) (Nat.le_refl _) _, ⟨A, c, B, d, set_1 (set_0 b2), (hO.low h1.size).keep (keepB_set2 b2 _ _).2.2.2.2.2.2⟩, x, y, set_far (set_far b4 ?_) ?_⟩
  · show w.heap.size + 1 ≠ w.heap.size; omega
  · show w.heap.size + 1 ≠ w.heap.size; omega
theorem RunS.ext {w W W' : World} {D : List (List Int)} {L : List (List (List Int))} (h : RunS w D L W) (k : Ext W W') : RunS w D L W' := by
  obtain ⟨h1, ⟨A0, c0, B0, d0, h2, h3⟩, x, y, h4⟩ := h
  exact ⟨h1.trans k, ⟨A0, c0, B0, d0, (k.block (heap_lt h2)).trans h2, h3.keep (KeepB.of_ext k)⟩, x, y, (k.block (heap_lt h4)).trans h4⟩
theorem RunS.start {w W : World} {D : List (List Int)} {L : List (List (List Int))} {a b x y : Value} (k : Ext ((w.alloc (.cells #[a, b] 26)).alloc (.cells #[x, y] 26)) W) {A : Option Addr} {c : Nat} {B : Option Addr} {d : Nat} {bs : Nat} (hb : w.heap.size ≤ bs) (hO : OwnDk bs W (.agg #[.slice A D.length c, .slice B L.length d]) D L) :
    RunS w D L ((W.setCell ⟨w.heap.size, 0, none⟩ (.slice A D.length c)).setCell ⟨w.heap.size, 1, none⟩ (.slice B L.length d)) := by
  obtain ⟨b0, b1, hx, -⟩ := two_blocks k
  refine ⟨(hx.setCell' (p := ⟨w.heap.size, 0, none⟩) (Nat.le_refl _) _).setCell' (p := ⟨w.heap.size, 1, none⟩) (Nat.le_refl _) _, ⟨A, c, B, d, set_1 (set_0 b0), (hO.low hb).keep (keepB_set2 b0 _ _).2.2.2.2.2.2⟩, x, y, set_far (set_far b1 ?_) ?_⟩
  · show w.heap.size + 1 ≠ w.heap.size; omega
  · show w.heap.size + 1 ≠ w.heap.size; omega
/-- what DeskRun hands back -/
def RunR (w : World) (D : List (List Int)) (L : List (List (List Int))) (n : Int) (e : Ending) (w' : World) : Prop := ∃ v, e = .returned (.tuple #[v, .int .i64 n]) ∧ OwnDk w.heap.size w' v D L ∧ Ext w w'
end Go.Proofs.YtnalcgcdohlfiaaGreatDoor
