/- What is proved: copies, sizes, marks of lists of deeds, all leaves apart (szDeedS, toDeedS, eqDeedS, markDeedS). Conditions: those of each contract. -/
import Derived.Test.YtieggegaeaaliaaDoorDe
import Derived.Test.YtieggegaeaaliaaDoorDso
import Derived.Deep.RegionLaw
namespace Go.Proofs.YtieggegaeaaliaaDoor
open Go.RowKit
/-- a row of n elements of two cells -/
def Row2 (W : World) (g : Nat) (T : TypeId) (n : Nat) (f0 f1 : Nat → Value) : Prop := ∃ cs, W.heap[g]? = some (.cells cs T (0, 0)) ∧ ∀ j, j < n → cs[j * 2]? = some (f0 j) ∧ cs[j * 2 + 1]? = some (f1 j)
theorem Row2.lt {W : World} {g : Nat} {T : TypeId} {n : Nat} {f0 f1 : Nat → Value} (h : Row2 W g T n f0 f1) : g < W.heap.size := by
  obtain ⟨cs, hb, -⟩ := h
  exact heap_lt hb
theorem Row2.cell {W : World} {g : Nat} {T : TypeId} {n : Nat} {f0 f1 : Nat → Value} (h : Row2 W g T n f0 f1) {j : Nat} (hj : j < n) : W.cell? ⟨g, j * 2, none⟩ = some (f0 j) ∧ W.cell? ⟨g, j * 2 + 1, none⟩ = some (f1 j) := by
  obtain ⟨cs, hb, hc⟩ := h
  exact ⟨(cell_cells hb _).trans (hc j hj).1, (cell_cells hb _).trans (hc j hj).2⟩
theorem Row2.frozen {W : World} {g : Nat} {T : TypeId} {n : Nat} {f0 f1 : Nat → Value} (h : Row2 W g T n f0 f1) (x : Nat) : W.frozen? ⟨g, x, none⟩ = false := by
  obtain ⟨cs, hb, -⟩ := h
  exact frozen_cells hb x
theorem Row2.of_block {W W' : World} {g : Nat} {T : TypeId} {n : Nat} {f0 f1 : Nat → Value} (h : Row2 W g T n f0 f1) (k : W'.heap[g]? = W.heap[g]?) : Row2 W' g T n f0 f1 := by
  obtain ⟨cs, hb, hc⟩ := h
  exact ⟨cs, k.trans hb, hc⟩
theorem Row2.congr {W : World} {g : Nat} {T : TypeId} {n : Nat} {f0 f1 h0 h1 : Nat → Value} (h : Row2 W g T n f0 f1) (k : ∀ j, j < n → f0 j = h0 j ∧ f1 j = h1 j) : Row2 W g T n h0 h1 := by
  obtain ⟨cs, hb, hc⟩ := h
  exact ⟨cs, hb, fun j hj => by rw [← (k j hj).1, ← (k j hj).2]; exact hc j hj⟩
theorem Row2.set0 {W : World} {g : Nat} {T : TypeId} {n : Nat} {f0 f1 : Nat → Value} (h : Row2 W g T n f0 f1) {i : Nat} (hi : i < n) (v : Value) : Row2 (W.setCell ⟨g, i * 2, none⟩ v) g T n (fun j => if j = i then v else f0 j) f1 := by
  obtain ⟨cs, hb, hc⟩ := h
  refine ⟨cs.setIfInBounds (i * 2) v, by simp [World.setCell, Array.getElem?_modify, hb], fun j hj => ?_⟩
  have hs : i * 2 < cs.size := (Array.getElem?_eq_some_iff.1 (hc i hi).1).1
  rw [Array.getElem?_setIfInBounds, Array.getElem?_setIfInBounds, if_neg (show ¬ i * 2 = j * 2 + 1 by omega), (hc j hj).2]
  by_cases e : j = i
  · subst e; simp [hs]
  · rw [if_neg (show ¬ i * 2 = j * 2 by omega), (hc j hj).1]; exact ⟨by simp [e], rfl⟩
theorem Row2.set1 {W : World} {g : Nat} {T : TypeId} {n : Nat} {f0 f1 : Nat → Value} (h : Row2 W g T n f0 f1) {i : Nat} (hi : i < n) (v : Value) : Row2 (W.setCell ⟨g, i * 2 + 1, none⟩ v) g T n f0 (fun j => if j = i then v else f1 j) := by
  obtain ⟨cs, hb, hc⟩ := h
  refine ⟨cs.setIfInBounds (i * 2 + 1) v, by simp [World.setCell, Array.getElem?_modify, hb], fun j hj => ?_⟩
  have hs : i * 2 + 1 < cs.size := (Array.getElem?_eq_some_iff.1 (hc i hi).2).1
  rw [Array.getElem?_setIfInBounds, Array.getElem?_setIfInBounds, if_neg (show ¬ i * 2 + 1 = j * 2 by omega), (hc j hj).1]
  by_cases e : j = i
  · subst e; simp [hs]
  · rw [if_neg (show ¬ i * 2 + 1 = j * 2 + 1 by omega), (hc j hj).2]; exact ⟨rfl, by simp [e]⟩
theorem Row2.made (W : World) (n : Nat) : Row2 (W.alloc (.cells (madeCells #[.int .i64 0, .slice none 0 0] (n * 2)) 31)) W.heap.size 31 n (fun _ => .int .i64 0) (fun _ => .slice none 0 0) := by
  refine ⟨_, heap_alloc_new W _, fun j hj => ?_⟩
  have m0 : (j * 2) % 2 = 0 := by omega
  have m1 : (j * 2 + 1) % 2 = 1 := by omega
  have l0 : j * 2 < n * 2 := by omega
  have l1 : j * 2 + 1 < n * 2 := by omega
  exact ⟨by simp [madeCells, l0, m0], by simp [madeCells, l1, m1]⟩
theorem make2 (n : Nat) (hn : n ≤ 1048576) (w : World) : (Instr.makeSlice 22 (.int .i64 (n : Int)) (.int .i64 (n : Int))).run Tryd.prog w = .ok (.slice (some ⟨w.heap.size, 0, none⟩) n n) (w.alloc (.cells (madeCells #[.int .i64 0, .slice none 0 0] (n * 2)) 31)) := by
  obtain ⟨i0, hi, hz, hsz, hb⟩ := info_parts infoDeed
  have := run_make (P := Tryd.prog) w 22 31 i0 (.agg #[.int .i64 0, .slice none 0 0]) Tryd.underlying22 hi hz .i64 .i64 (n : Int) (n : Int) (by omega) (Int.le_refl _) (by rw [hb]; omega) (by omega)
  rw [hsz] at this
  rw [this]
  rfl
/-- a list of deeds, its leaves V -/
def DsV (W : World) (A : Option Addr) (c : Nat) (ds : List (Int × List Int)) (V : Nat → Value) : Prop :=
  ds.length ≤ c ∧ c ≤ maxLen ∧ (0 < ds.length → ∃ g, A = some ⟨g, 0, none⟩ ∧ Row2 W g 31 ds.length (fun i => .int .i64 (dk ds i)) V) ∧ (∀ i, i < ds.length → Leaf W (V i) (dx ds i)) ∧ Dis ds.length V
theorem OwnDs.v {b : Nat} {w : World} {v : Value} {ds : List (Int × List Int)} {V : Nat → Value} (h : OwnDs b w v ds V) : ∃ A c, v = .slice A ds.length c ∧ DsV w A c ds V := by
  obtain ⟨h1, h2, h3, h4⟩ := h
  rcases h1.2 with ⟨rfl, h0⟩ | ⟨g, cap, cur, rfl, hb, hg, hc, hm, hs, ht⟩
  · exact ⟨none, 0, by rw [h0], by omega, Nat.zero_le _, fun q => absurd q (by omega), fun i hi => absurd hi (by omega), h4⟩
  · refine ⟨_, cap, rfl, hc, hm, fun _ => ⟨g, rfl, cur, hg, fun i hi => ?_⟩, h2, h4⟩
    obtain ⟨f1, f2⟩ := flatR_get ds V hi
    rw [← ht, List.getElem?_take, if_pos (by omega)] at f1 f2
    rw [← Array.getElem?_toList, ← Array.getElem?_toList]
    exact ⟨f1, f2⟩
theorem DsV.deeds {w : World} {A : Option Addr} {c : Nat} {ds : List (Int × List Int)} {V : Nat → Value} (h : DsV w A c ds V) : DeedsM w A c ds := by
  obtain ⟨h1, h2, h3, h4, -⟩ := h
  by_cases h0 : 0 < ds.length
  · obtain ⟨g, e, hr⟩ := h3 h0
    refine ⟨h1, h2, g, 0, fun _ => e, fun i hi => ?_⟩
    obtain ⟨X, cx, hv, hI⟩ := (h4 i hi).ints
    obtain ⟨c1, c2⟩ := hr.cell hi
    rw [Nat.zero_add]
    exact ⟨X, cx, c1, by rw [c2, hv], hI⟩
  · exact ⟨h1, h2, 0, 0, fun q => absurd q h0, fun i hi => absurd hi (by omega)⟩
theorem DsV.ext {w w' : World} {A : Option Addr} {c : Nat} {ds : List (Int × List Int)} {V : Nat → Value} (h : DsV w A c ds V) (k : Ext w w') : DsV w' A c ds V := by
  obtain ⟨h1, h2, h3, h4, h5⟩ := h
  refine ⟨h1, h2, fun h0 => ?_, fun i hi => (h4 i hi).ext k, h5⟩
  obtain ⟨g, e, hr⟩ := h3 h0
  exact ⟨g, e, hr.of_block (k.block hr.lt)⟩
/-- what a copy of a list of deeds leaves -/
def FreshDs (w : World) (ds : List (Int × List Int)) (e : Ending) (w' : World) : Prop :=
  ∃ A c V, e = .returned (.slice A ds.length c) ∧ DsV w' A c ds V ∧ (∀ i, i < ds.length → ∀ g ∈ lb (V i), w.heap.size ≤ g) ∧ (∀ g o s, A = some ⟨g, o, s⟩ → w.heap.size ≤ g) ∧ Ext w w'
end Go.Proofs.YtieggegaeaaliaaDoor
