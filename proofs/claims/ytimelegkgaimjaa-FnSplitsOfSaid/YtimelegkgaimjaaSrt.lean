/- What is proved: three numbers in ascending order; slices.Sort of three numbers in a block of their own. Conditions: those of each contract. -/
import Derived.Test.YtimelegkgaimjaaIso
import Derived.Test.YtimelegkgaimjaaShelf
import Derived.Sort.OwnSortedInts
namespace Go.Proofs.Ytimelegkgaimjaa
open Go.RowKit Go.Sort
def srt (xs : List Int) : List Int := xs.mergeSort fun x y => decide (x ≤ y)
theorem srt_len (xs : List Int) : (srt xs).length = xs.length := List.length_mergeSort xs
theorem srt_mem {xs : List Int} {x : Int} : x ∈ srt xs ↔ x ∈ xs := (List.mergeSort_perm xs _).mem_iff
theorem srt3_form (x y z : Int) : ∃ a b c, srt [x, y, z] = [a, b, c] ∧ a ≤ b ∧ b ≤ c ∧ a + b + c = x + y + z ∧ c = max (max x y) z ∧ a = min (min x y) z := by
  have hlen := srt_len [x, y, z]
  have hp := List.pairwise_mergeSort (le := fun x y : Int => decide (x ≤ y)) (fun a b c => by simp only [decide_eq_true_eq]; omega) (fun a b => by simp only [Bool.or_eq_true, decide_eq_true_eq]; omega) [x, y, z]
  have hperm := List.mergeSort_perm [x, y, z] (fun x y => decide (x ≤ y))
  change (srt [x, y, z]).Pairwise _ at hp
  change (srt [x, y, z]).Perm _ at hperm
  obtain ⟨a, b, c, e⟩ : ∃ a b c, srt [x, y, z] = [a, b, c] := by
    match h : srt [x, y, z], hlen with
    | [a, b, c], _ => exact ⟨a, b, c, rfl⟩
  rw [e] at hp hperm
  simp only [List.pairwise_cons, List.mem_cons, List.not_mem_nil, or_false, decide_eq_true_eq, forall_eq_or_imp, forall_eq] at hp
  have hs : a + b + c = x + y + z := by
    have := List.Perm.foldr_eq' hperm (f := fun p q => p + q) (fun p _ q _ r => by omega) 0
    simp at this
    omega
  have m1 := (hperm.mem_iff (a := c)).1 (by simp)
  have m2 := (hperm.mem_iff (a := a)).1 (by simp)
  have n1 := (hperm.mem_iff (a := x)).2 (by simp)
  have n2 := (hperm.mem_iff (a := y)).2 (by simp)
  have n3 := (hperm.mem_iff (a := z)).2 (by simp)
  simp only [List.mem_cons, List.not_mem_nil, or_false] at m1 m2 n1 n2 n3
  obtain ⟨⟨p1, p2⟩, p3, -⟩ := hp
  refine ⟨a, b, c, e, p1, p3, hs, ?_, ?_⟩
  · omega
  · omega
theorem srt3 (x y z : Int) : ix (srt [x, y, z]) 0 ≤ ix (srt [x, y, z]) 1 ∧ ix (srt [x, y, z]) 1 ≤ ix (srt [x, y, z]) 2 ∧ ix (srt [x, y, z]) 0 + ix (srt [x, y, z]) 1 + ix (srt [x, y, z]) 2 = x + y + z ∧ ix (srt [x, y, z]) 2 = max (max x y) z ∧ ix (srt [x, y, z]) 0 = min (min x y) z := by
  obtain ⟨a, b, c, e, h⟩ := srt3_form x y z
  rw [e]
  exact h
theorem srt_bd {xs : List Int} (h3 : xs.length = 3) {a b : Int} (h : ∀ x ∈ xs, a ≤ x ∧ x ≤ b) : (a ≤ ix (srt xs) 1 ∧ ix (srt xs) 1 ≤ b) ∧ (a ≤ ix (srt xs) 2 ∧ ix (srt xs) 2 ≤ b) := by
  have hl := srt_len xs
  exact ⟨h _ (srt_mem.1 (by rw [ix_of (by omega)]; exact List.getElem_mem _)), h _ (srt_mem.1 (by rw [ix_of (by omega)]; exact List.getElem_mem _))⟩
theorem leaf_three {w w1 : World} {v : Value} {xs : List Int} (hL : Leaf w1 v xs) (hF : ∀ g ∈ lb v, w.heap.size ≤ g) (h3 : xs.length = 3) :
    ∃ (blk c : Nat) (cs : Array Value), v = .slice (some ⟨blk, 0, none⟩) 3 c ∧ w.heap.size ≤ blk ∧ w1.heap[blk]? = some (.cells cs 3 (0, 0)) ∧ ∀ j, j < xs.length → cs[j]? = some (.int .i64 (ix xs j)) := by
  obtain ⟨A, c, rfl, hc, hm, hx⟩ := hL
  obtain ⟨g, cs, rfl, hg, hcs⟩ := hx (by omega)
  refine ⟨g, c, cs, by rw [h3], hF g ?_, hg, hcs⟩
  rw [h3]
  simp [lb]
theorem sort3_any (blk c : Nat) (cs : Array Value) (xs : List Int) (w : World) (h3 : xs.length = 3) (hb : w.heap[blk]? = some (.cells cs 3 (0, 0))) (hcs : ∀ j, j < xs.length → cs[j]? = some (.int .i64 (ix xs j))) :
    Calls Try.prog 75 #[.slice (some ⟨blk, 0, none⟩) 3 c] w fun e w' => e = .returned (.tuple #[]) ∧ w'.cell? ⟨blk, 1, none⟩ = some (.int .i64 (ix (srt xs) 1)) ∧ w'.cell? ⟨blk, 2, none⟩ = some (.int .i64 (ix (srt xs) 2)) ∧ ∀ w0, Ext w0 w → w0.heap.size ≤ blk → Ext w0 w' := by
  have hlt := heap_lt hb
  have ht : cs.toList.take xs.length = xs.map (Value.int .i64) := by
    apply List.ext_getElem?
    intro j
    by_cases hj : j < xs.length
    · rw [List.getElem?_take_of_lt hj, Array.getElem?_toList, hcs j hj]
      simp [hj, ix_of hj]
    · rw [List.getElem?_take_eq_none (by omega), List.getElem?_eq_none (by simp; omega)]
  have hH := holds_of_blockI hb ht
  have hC := slices_Sort_int blk 0 c xs w hH hlt (by omega)
  rw [h3] at hC
  refine hC.mono ?_
  rintro e w' ⟨rfl, n, os, rfl⟩
  have hsz : 3 ≤ cs.size := by
    have := hcs 2 (by omega)
    rcases Nat.lt_or_ge 2 cs.size with q | q
    · exact q
    · rw [Array.getElem?_eq_none q] at this; cases this
  have hb2 := heap_sortedI (n := n) (os := os) (srt xs).toArray hb
  have hl := srt_len xs
  have hcell : ∀ j, j < 3 → (grow (putRow (Value.int .i64) (Sort.ahead w n) blk 0 (srt xs).toArray) os).cell? ⟨blk, j, none⟩ = some (.int .i64 (ix (srt xs) j)) := fun j hj => by
    rw [cell_cells hb2 j]
    have hq : j < (srt xs).length := by omega
    simp only [putCells, Array.getElem?_mapIdx]
    rw [Array.getElem?_eq_getElem (by omega)]
    simp [hq, ix_of hq]
  refine ⟨rfl, hcell 1 (by omega), hcell 2 (by omega), fun w0 hx h0 => ?_⟩
  have hsz0 := hx.size
  obtain ⟨g1, g2, g3, g4, g5⟩ := grownBy_sortedI (w := w) (g := blk) (n := n) (os := os) (srt xs).toArray
  exact ⟨g1.trans (Below.os hx), g2.trans (Below.tape hx), g3.trans (Below.output hx), Nat.le_trans hsz0 g4, fun i hi => (g5 i (by omega) (fun e => by injection e with e; omega)).trans (Below.block hx i hi)⟩
end Go.Proofs.Ytimelegkgaimjaa
